/- Chapter 27, plain facts: leaves without errors. -/
import Derived.Test.YtgdckehjpgchoaaA1
set_option linter.unusedVariables false
set_option linter.unusedSimpArgs false
namespace Go.Nv
theorem first_zero {l : List Int} : first l = 0 ↔ ∀ e ∈ l, e = 0 := by
  induction l with
  | nil => simp [first]
  | cons e l ih =>
    simp only [first, List.mem_cons, forall_eq_or_imp]
    by_cases h : (e != 0) = true
    · rw [if_pos h]; simp at h; simp [h]
    · rw [if_neg h, ih]; simp at h; simp [h]
theorem cond_zero {b : Bool} {e : Int} (he : e ≠ 0) : cond b e = 0 ↔ b = false := by
  unfold cond; cases b <;> simp [he]
theorem entry_ok {x : En} (h : entryErr x = 0) : 1 ≤ x.k.size ∧ x.k.size ≤ 256 ∧ 1 ≤ x.r ∧ x.r ≤ 60 := by
  unfold entryErr at h
  rw [first_zero] at h
  have h1 := (cond_zero (by decide)).1 (h (cond (keyErr x.k) 18) (by simp))
  have h2 := (cond_zero (by decide)).1 (h (cond (rrnErr x.r) 3) (by simp))
  rw [keyErr_iff] at h1
  rw [rrnErr_iff] at h2
  simp [within] at h1 h2
  omega
theorem leaf_ok {x : Nd} (h : leafE x = 0) : 0 < (rsOf x).length ∧ ∀ r ∈ rsOf x, entryErr ⟨x.k, r⟩ = 0 := by
  unfold leafE at h
  split at h
  · cases h
  · rename_i h0
    refine ⟨by omega, fun r hr => ?_⟩
    unfold entsErr at h
    rw [first_zero] at h
    exact h _ (List.mem_map.2 ⟨r, hr, rfl⟩)
theorem lvB_ok {keys : List ByteArray} {x : Nd} {ρ : Bool} (h : lvB keys x ρ = 0) : otherK keys x = false ∧ ρ = true ∧ ∀ k ∈ keys, (x.k.toList == k.toList) = false := by
  unfold lvB at h
  rw [first_zero] at h
  have h1 := (cond_zero (by decide)).1 (h (cond (otherK keys x) 18) (by simp))
  have h2 := (cond_zero (by decide)).1 (h (cond (!ρ) 14) (by simp))
  have h3 := (cond_zero (by decide)).1 (h (cond (decide (findI (eqK x.k) keys 0 ≥ 0)) 13) (by simp))
  rw [findI_any] at h3
  refine ⟨h1, by simpa using h2, fun k hk => ?_⟩
  have := List.any_eq_false.1 h3 k hk
  simpa [eqK] using this
/-- If the leaves have no errors: their entries are few, and their keys of one length. -/
theorem lvE_ok : ∀ (l : List Nd) (i : Nat) (keys : List ByteArray) (c : Nat), (lvE l i keys c).2 = 0 → (∀ k ∈ keys, k.size = (keys.getD 0 (bs [])).size) →
    (lvE l i keys c).1 = 0 ∧ c + (entsF l).length ≤ 120 ∧ (∀ x ∈ entsF l, 1 ≤ x.k.size ∧ x.k.size ≤ 256) ∧ ∀ x ∈ entsF l, ∀ n, (0 < keys.length → (keys.getD 0 (bs [])).size = n) → (keys.length = 0 → ((entsF l).getD 0 en0).k.size = n) → x.k.size = n
  | [], i, keys, c, h, _ => by
    simp only [lvE] at h ⊢
    have := (cond_zero (by decide)).1 h
    have he : entsF [] = [] := rfl
    rw [he]
    refine ⟨trivial, ?_, (fun x hx => by cases hx), (fun x hx => by cases hx)⟩
    rw [List.length_nil]
    have : ¬ (c : Int) > 120 := of_decide_eq_false this
    omega
  | x :: l, i, keys, c, h, hk => by
    simp only [lvE] at h ⊢
    have hcons : entsF (x :: l) = entsX x ++ entsF l := by simp [entsF]
    by_cases hn : (x.b != -1) = true
    · rw [if_pos hn] at h ⊢
      have hx : entsX x = [] := by unfold entsX; rw [if_pos hn]
      rw [hcons, hx, List.nil_append]
      exact lvE_ok l (i + 1) keys c h hk
    · rw [if_neg hn] at h ⊢
      by_cases hq : (leafE x != 0) = true
      · rw [if_pos hq] at h; simp at hq; exact absurd h hq
      · rw [if_neg hq] at h ⊢
        by_cases hq2 : (lvB keys x (risD (rsOf x)) != 0) = true
        · rw [if_pos hq2] at h; simp at hq2; exact absurd h hq2
        · rw [if_neg hq2] at h ⊢
          have hl := leaf_ok (by simpa using hq)
          have hb := lvB_ok (by simpa using hq2)
          have hx : entsX x = entsN x := by unfold entsX; rw [if_neg hn]
          have hsz : ∀ y ∈ entsN x, y.k = x.k := fun y hy => by
            simp only [entsN, List.mem_map] at hy; obtain ⟨r, _, rfl⟩ := hy; rfl
          have hx256 : 1 ≤ x.k.size ∧ x.k.size ≤ 256 := by
            obtain ⟨r, hr⟩ := List.exists_mem_of_length_pos hl.1
            have := entry_ok (hl.2 r hr)
            exact ⟨this.1, this.2.1⟩
          have hsame : 0 < keys.length → (keys.getD 0 (bs [])).size = x.k.size := fun h0 => by
            have ho := hb.1
            unfold otherK at ho
            have : decide ((keys.length : Int) > 0) = true := by simp; omega
            rw [this, Bool.true_and] at ho
            simp at ho
            have e : keys.getD 0 (bs []) = keys[0]?.getD (bs []) := List.getD_eq_getElem?_getD ..
            rw [e]; omega
          have hg0 : ((keys ++ [x.k]).getD 0 (bs [])).size = x.k.size := by
            by_cases h0 : 0 < keys.length
            · have e : (keys ++ [x.k]).getD 0 (bs []) = keys.getD 0 (bs []) := by
                simp only [List.getD_eq_getElem?_getD, List.getElem?_append_left h0]
              rw [e]; exact hsame h0
            · have : keys = [] := List.length_eq_zero_iff.1 (by omega)
              subst this; rfl
          obtain ⟨i1, i2, i3, i4⟩ := lvE_ok l (i + 1) (keys ++ [x.k]) (c + (rsOf x).length) h (fun k hk' => by
            rw [hg0]
            rcases List.mem_append.1 hk' with h1 | h1
            · rw [hk k h1]; exact hsame (List.length_pos_of_mem h1)
            · simp only [List.mem_singleton] at h1; rw [h1])
          have hpos : 0 < (entsN x).length := by rw [entsN_len]; exact hl.1
          refine ⟨i1, ?_, fun y hy => ?_, fun y hy n g1 g2 => ?_⟩
          · rw [hcons, hx, List.length_append, entsN_len]; omega
          · rw [hcons, hx] at hy
            rcases List.mem_append.1 hy with h1 | h1
            · rw [hsz y h1]; exact hx256
            · exact i3 y h1
          · have hxn : x.k.size = n := by
              by_cases h0 : 0 < keys.length
              · rw [← hsame h0]; exact g1 h0
              · have g := g2 (by omega)
                rw [hcons, hx] at g
                have e : (entsN x ++ entsF l).getD 0 en0 = (entsN x).getD 0 en0 := by
                  simp only [List.getD_eq_getElem?_getD, List.getElem?_append_left hpos]
                rw [e] at g
                have hm : (entsN x).getD 0 en0 ∈ entsN x := by
                  rw [List.getD_eq_getElem?_getD, List.getElem?_eq_getElem hpos]; exact List.getElem_mem hpos
                rw [hsz _ hm] at g; exact g
            rw [hcons, hx] at hy
            rcases List.mem_append.1 hy with h1 | h1
            · rw [hsz y h1]; exact hxn
            · exact i4 y h1 n (fun _ => by rw [hg0]; exact hxn) (fun h0 => by simp at h0)
theorem lvE_good {l : List Nd} (h : (lvE l 0 [] 0).2 = 0) : (lvE l 0 [] 0).1 = 0 ∧ (entsF l).length ≤ 120 ∧ ∃ n, n ≤ 256 ∧ Len n (entsF l) := by
  obtain ⟨h1, h2, h3, h4⟩ := lvE_ok l 0 [] 0 h (fun k hk => by cases hk)
  refine ⟨h1, by omega, ?_⟩
  by_cases h0 : 0 < (entsF l).length
  · have hm : (entsF l).getD 0 en0 ∈ entsF l := by
      rw [List.getD_eq_getElem?_getD, List.getElem?_eq_getElem h0]; exact List.getElem_mem h0
    exact ⟨((entsF l).getD 0 en0).k.size, (h3 _ hm).2, fun x hx => h4 x hx _ (fun hh => by cases hh) (fun _ => rfl)⟩
  · have : entsF l = [] := List.length_eq_zero_iff.1 (by omega)
    exact ⟨0, by omega, fun x hx => by rw [this] at hx; cases hx⟩
end Go.Nv
/- BY VALUE: chapter 27, trees (6): which lists of nodes are trees. -/
namespace Go.Nv
variable {S : RT}
attribute [local congr] ite_congr congr_bindOps congr_bindC congr_bindD congr_onE congr_onA congr_onBool congr_onEff congr_headC congr_ob congr_ob2 congr_onI congr_onS congr_onAg congr_onTu congr_onRow congr_obO congr_takeR congr_ldV congr_ldN congr_iaV congr_onMap congr_stP congr_appA congr_frzR congr_onFn congr_fzV congr_callM congr_callN congr_onIo congr_giveR congr_rowS congr_bxS congr_bxC congr_rnR congr_rnP congr_onFin
set_option maxRecDepth 100000
set_option maxHeartbeats 40000000
def shAt (l w : List Nd) (i : Nat) : Int := if (decide ((i : Int) ≥ (w.length : Int)) || !sameN (l.getD i nd0) (w.getD i nd0)) = true then 6 else 0
def chkF (l : List Nd) : Nat × Int :=
  if decide ((l.length : Int) > 240) = true then (0, 2)
  else if ((lvE l 0 [] 0).2 != 0) = true then lvE l 0 [] 0
  else firstBad (shAt l (treeF (entsF l))) l.length 0
theorem firstBad_succ (f : Nat → Int) (n i : Nat) (h : i < n) : firstBad f (n - i) i = if (f i != 0) = true then (i, f i) else firstBad f (n - (i + 1)) (i + 1) := by
  rw [show n - i = (n - (i + 1)) + 1 by omega]; rfl
theorem mem_at {l : List Nd} {i : Nat} (h : i < l.length) : l.getD i nd0 ∈ l := by
  rw [List.getD_eq_getElem?_getD, List.getElem?_eq_getElem h]; exact List.getElem_mem h
theorem run20 (hS : S27 S) (l : List Nd) (hl : l.length ≤ 1000) (hr : ∀ x ∈ l, (rsOf x).length ≤ 1000) : run T S 20 [.sl (l.map encN)] = some (pairN (chkF l)) := by
  unfold chkF
  by_cases h : (l.length : Int) > 240
  · have h' : decide ((l.length : Int) > 240) = true := by simpa using h
    rw [if_pos h']
    (refine run_fn T20 ⟨rfl, by decide, by rfl⟩ ?_; rw [start20, body20, B20]; dsimp only [ov, oo, og])
    simp (config := {decide := true, contextual := true, maxSteps := 5000000}) only [enc_len, h', pairN, np20, res20, ↓simPre, simPost, capt_pure, argV_ro, argV_le, expo_pure, refsL_pure, isL_pure, k0_pure, k1_pure, ren0_pure, ren1_pure, sT_pure, sO_pure, bxGo_pure, resGo_pure, inst_pure, inst_rows, inst_bx, resP_go, viewT_pure, outs_skip, fzV_pure, bxL_pure, bxOf_pure, rowsOf_pure, rows1_pure, name1_pure, nameB1_pure, simR, reduceCtorEq, ↓reduceIte, splice, Nat.reduceAdd, Nat.reduceLT, Nat.reduceLeDiff, Nat.reduceEqDiff, Nat.reduceSub, noPtr, isPtr, notAgg, notIo, AV.capt, distinct, covers, O.keys, O.wr, okPair, disj, List.replicate, startOk]
  have h' : decide ((l.length : Int) > 240) = false := by simpa using h
  rw [if_neg (by simpa using h)]
  have h61 := run61 (S := S) l hl hr
  by_cases hq : ((lvE l 0 [] 0).2 != 0) = true
  · rw [if_pos hq]
    simp only [pairN] at h61
    (refine run_fn T20 ⟨rfl, by decide, by rfl⟩ ?_; rw [start20, body20, B20]; dsimp only [ov, oo, og])
    simp (config := {decide := true, contextual := true, maxSteps := 5000000}) only [enc_len, h', h61, hq, pairN, np20, res20, ↓simPre, simPost, capt_pure, argV_ro, argV_le, expo_pure, refsL_pure, isL_pure, k0_pure, k1_pure, ren0_pure, ren1_pure, sT_pure, sO_pure, bxGo_pure, resGo_pure, inst_pure, inst_rows, inst_bx, resP_go, viewT_pure, outs_skip, fzV_pure, bxL_pure, bxOf_pure, rowsOf_pure, rows1_pure, name1_pure, nameB1_pure, simR, reduceCtorEq, ↓reduceIte, splice, Nat.reduceAdd, Nat.reduceLT, Nat.reduceLeDiff, Nat.reduceEqDiff, Nat.reduceSub, noPtr, isPtr, notAgg, notIo, AV.capt, distinct, covers, O.keys, O.wr, okPair, disj, List.replicate, startOk]
  have hq' : ((lvE l 0 [] 0).2 != 0) = false := by simpa using hq
  rw [if_neg hq]
  simp only [pairN] at h61
  obtain ⟨g1, g2, n, g3, g4⟩ := lvE_good (by simpa using hq)
  have h62 := run62 (S := S) l hl hr
  have h55 := run55 hS (entsF l) n (by omega) g4 (by omega)
  have hb := treeF_bounds g4
  generalize treeF (entsF l) = w at *
  have hw : w.length ≤ 240 := by omega
  have hwr : ∀ x ∈ w, (rsOf x).length ≤ 1000 := fun x hx => by have := hb.2 x hx; omega
  clear hb
  cases hfl : flats (w.map encR) <;> (
    (refine run_fn T20 ⟨rfl, by decide, by rfl⟩ ?_; rw [start20, body20, B20]; dsimp only [ov, oo, og])
    simp (config := {decide := true, contextual := true, maxSteps := 5000000}) only [enc_len, h', h61, hq', h62, h55, entPure, hfl, np20, res20, ↓simPre, simPost, capt_pure, argV_ro, argV_le, expo_pure, refsL_pure, isL_pure, k0_pure, k1_pure, ren0_pure, ren1_pure, sT_pure, sO_pure, bxGo_pure, resGo_pure, inst_pure, inst_rows, inst_bx, resP_go, viewT_pure, outs_skip, fzV_pure, bxL_pure, bxOf_pure, rowsOf_pure, rows1_pure, name1_pure, nameB1_pure, simR, reduceCtorEq, ↓reduceIte, splice, Nat.reduceAdd, Nat.reduceLT, Nat.reduceLeDiff, Nat.reduceEqDiff, Nat.reduceSub, noPtr, isPtr, notAgg, notIo, AV.capt, distinct, covers, O.keys, O.wr, okPair, disj, List.replicate, startOk]
    refine headC_range l.length (fun i e => e.put (some 26) (.int .i64 i)) (fun i => some (pairN (firstBad (shAt l w) (l.length - i) i))) rfl ?_ ?_
    · simp (config := {decide := true, contextual := true, maxSteps := 5000000}) only [enc_len, castNlt (Nat.lt_irrefl _), Nat.sub_self, firstBad, pairN, np20, res20, ↓simPre, simPost, capt_pure, argV_ro, argV_le, expo_pure, refsL_pure, isL_pure, k0_pure, k1_pure, ren0_pure, ren1_pure, sT_pure, sO_pure, bxGo_pure, resGo_pure, inst_pure, inst_rows, inst_bx, resP_go, viewT_pure, outs_skip, fzV_pure, bxL_pure, bxOf_pure, rowsOf_pure, rows1_pure, name1_pure, nameB1_pure, simR, reduceCtorEq, ↓reduceIte, splice, Nat.reduceAdd, Nat.reduceLT, Nat.reduceLeDiff, Nat.reduceEqDiff, Nat.reduceSub, noPtr, isPtr, notAgg, notIo, AV.capt, distinct, covers, O.keys, O.wr, okPair, disj, List.replicate, startOk]
    · intro i hlt ih
      rw [firstBad_succ _ _ _ hlt]
      have h9 := enc_get encN l i nd0 hlt
      have hx := hr _ (mem_at hlt)
      have hsh : shAt l w i = if (decide ((i : Int) ≥ (w.length : Int)) || !sameN (l.getD i nd0) (w.getD i nd0)) = true then 6 else 0 := rfl
      by_cases hi : i < w.length
      · have z1 : decide ((i : Int) ≥ (w.length : Int)) = false := decide_eq_false (by omega)
        have e6 := enc_get encR w i nd0 hi
        have e11 := enc_get? encR w i nd0 hi
        have h63 := run63 (S := S) (l.getD i nd0) (w.getD i nd0) (by omega)
        rw [z1, Bool.false_or] at hsh
        generalize l.getD i nd0 = x at *
        generalize w.getD i nd0 = y at *
        cases hq3 : sameN x y
        · rw [hq3] at hsh
          have hsh : shAt l w i = 6 := hsh
          rw [hsh, if_pos (by decide)]
          cases hy : y.leaf <;> simp only [encR, hy, encN, rsOf, Bool.false_eq_true, if_false, if_true, ints, List.map_nil] at e6 e11 h9 h63
          · simp (config := {decide := true, contextual := true, maxSteps := 5000000}) only [enc_len, castLt hlt, castLt hi, h9, e6, e11, z1, h63, hq3, pairN, ints, np20, res20, ↓simPre, simPost, capt_pure, argV_ro, argV_le, expo_pure, refsL_pure, isL_pure, k0_pure, k1_pure, ren0_pure, ren1_pure, sT_pure, sO_pure, bxGo_pure, resGo_pure, inst_pure, inst_rows, inst_bx, resP_go, viewT_pure, outs_skip, fzV_pure, bxL_pure, bxOf_pure, rowsOf_pure, rows1_pure, name1_pure, nameB1_pure, simR, reduceCtorEq, ↓reduceIte, splice, Nat.reduceAdd, Nat.reduceLT, Nat.reduceLeDiff, Nat.reduceEqDiff, Nat.reduceSub, noPtr, isPtr, notAgg, notIo, AV.capt, distinct, covers, O.keys, O.wr, okPair, disj, List.replicate, startOk]
          · have ap := allPure_ints y.rs
            have s8 : ∀ q : List AV, ((w.map encR).set i q)[i]? = some q := fun q => by rw [List.getElem?_set_self (by simp; exact hi)]
            simp only [ints] at ap
            simp (config := {decide := true, contextual := true, maxSteps := 5000000}) only [enc_len, castLt hlt, castLt hi, h9, e6, e11, z1, h63, hq3, pairN, ints, s8, viewT_pure ap, np20, res20, ↓simPre, simPost, capt_pure, argV_ro, argV_le, expo_pure, refsL_pure, isL_pure, k0_pure, k1_pure, ren0_pure, ren1_pure, sT_pure, sO_pure, bxGo_pure, resGo_pure, inst_pure, inst_rows, inst_bx, resP_go, viewT_pure, outs_skip, fzV_pure, bxL_pure, bxOf_pure, rowsOf_pure, rows1_pure, name1_pure, nameB1_pure, simR, reduceCtorEq, ↓reduceIte, splice, Nat.reduceAdd, Nat.reduceLT, Nat.reduceLeDiff, Nat.reduceEqDiff, Nat.reduceSub, noPtr, isPtr, notAgg, notIo, AV.capt, distinct, covers, O.keys, O.wr, okPair, disj, List.replicate, startOk]
        · rw [hq3] at hsh
          have hsh : shAt l w i = 0 := hsh
          rw [hsh, if_neg (by decide)]
          cases hy : y.leaf <;> simp only [encR, hy, encN, rsOf, Bool.false_eq_true, if_false, if_true, ints, List.map_nil] at e6 e11 h9 h63
          · simp (config := {decide := true, contextual := true, maxSteps := 5000000}) only [enc_len, castLt hlt, castLt hi, h9, e6, e11, z1, h63, hq3, ints, wrap_succ hlt (by omega), np20, res20, ↓simPre, simPost, capt_pure, argV_ro, argV_le, expo_pure, refsL_pure, isL_pure, k0_pure, k1_pure, ren0_pure, ren1_pure, sT_pure, sO_pure, bxGo_pure, resGo_pure, inst_pure, inst_rows, inst_bx, resP_go, viewT_pure, outs_skip, fzV_pure, bxL_pure, bxOf_pure, rowsOf_pure, rows1_pure, name1_pure, nameB1_pure, simR, reduceCtorEq, ↓reduceIte, splice, Nat.reduceAdd, Nat.reduceLT, Nat.reduceLeDiff, Nat.reduceEqDiff, Nat.reduceSub, noPtr, isPtr, notAgg, notIo, AV.capt, distinct, covers, O.keys, O.wr, okPair, disj, List.replicate, startOk]
            exact ih
          · have ap := allPure_ints y.rs
            have s8 : ∀ q : List AV, ((w.map encR).set i q)[i]? = some q := fun q => by rw [List.getElem?_set_self (by simp; exact hi)]
            simp only [ints] at ap
            simp (config := {decide := true, contextual := true, maxSteps := 5000000}) only [enc_len, castLt hlt, castLt hi, h9, e6, e11, z1, h63, hq3, ints, s8, viewT_pure ap, wrap_succ hlt (by omega), np20, res20, ↓simPre, simPost, capt_pure, argV_ro, argV_le, expo_pure, refsL_pure, isL_pure, k0_pure, k1_pure, ren0_pure, ren1_pure, sT_pure, sO_pure, bxGo_pure, resGo_pure, inst_pure, inst_rows, inst_bx, resP_go, viewT_pure, outs_skip, fzV_pure, bxL_pure, bxOf_pure, rowsOf_pure, rows1_pure, name1_pure, nameB1_pure, simR, reduceCtorEq, ↓reduceIte, splice, Nat.reduceAdd, Nat.reduceLT, Nat.reduceLeDiff, Nat.reduceEqDiff, Nat.reduceSub, noPtr, isPtr, notAgg, notIo, AV.capt, distinct, covers, O.keys, O.wr, okPair, disj, List.replicate, startOk]
            exact ih
      · have z1 : decide ((i : Int) ≥ (w.length : Int)) = true := decide_eq_true (by omega)
        rw [z1] at hsh
        have hsh : shAt l w i = 6 := hsh
        rw [hsh, if_pos (by decide)]
        simp only [encN] at h9
        simp (config := {decide := true, contextual := true, maxSteps := 5000000}) only [enc_len, castLt hlt, h9, z1, pairN, np20, res20, ↓simPre, simPost, capt_pure, argV_ro, argV_le, expo_pure, refsL_pure, isL_pure, k0_pure, k1_pure, ren0_pure, ren1_pure, sT_pure, sO_pure, bxGo_pure, resGo_pure, inst_pure, inst_rows, inst_bx, resP_go, viewT_pure, outs_skip, fzV_pure, bxL_pure, bxOf_pure, rowsOf_pure, rows1_pure, name1_pure, nameB1_pure, simR, reduceCtorEq, ↓reduceIte, splice, Nat.reduceAdd, Nat.reduceLT, Nat.reduceLeDiff, Nat.reduceEqDiff, Nat.reduceSub, noPtr, isPtr, notAgg, notIo, AV.capt, distinct, covers, O.keys, O.wr, okPair, disj, List.replicate, startOk])
end Go.Nv
/- Chapter 27, plain facts: the reference's check of leaves is the program's. -/
namespace Go.Nv
/-- The index of the first leaf. -/
def fstL (f : Int) (i : Nat) : Nat := if (f == -1) = true then i else f.toNat
/-- The reference's first error of a leaf, with an index. -/
def rLv (l : List Nd) : Nat → Nat → Int → Nat × Int
  | 0, _, _ => (0, 0)
  | n + 1, i, f =>
    if ((l.getD i nd0).b != -1) = true then rLv l n (i + 1) f
    else if (rLeafE l i (fstL f i) != 0) = true then (i, rLeafE l i (fstL f i))
    else rLv l n (i + 1) (fstL f i)
theorem rEnts_eq (k : ByteArray) (rs : List Int) : rEnts k rs = entsErr k rs := by
  unfold rEnts entsErr
  have : (fun r => rEntryErr ⟨k, r⟩) = (fun r => entryErr ⟨k, r⟩) := funext fun r => (entryErr_eq ⟨k, r⟩).symm
  rw [this]
/-- The keys of leaves. -/
def keysL (l : List Nd) : List ByteArray := (l.filter fun x => x.b == -1).map (·.k)
theorem keysL_succ {l : List Nd} {i : Nat} (h : i < l.length) : keysL (l.take (i + 1)) = keysL (l.take i) ++ (if ((l.getD i nd0).b == -1) = true then [(l.getD i nd0).k] else []) := by
  rw [take_succ nd0 h]
  unfold keysL
  rw [List.filter_append, List.map_append, List.filter_cons]
  split <;> simp
theorem dup_eq (l : List Nd) (x : Nd) : l.any (sameKeyLeaf x) = decide (findI (eqK x.k) (keysL l) 0 ≥ 0) := by
  rw [findI_any]
  induction l with
  | nil => rfl
  | cons y l ih =>
    unfold keysL at ih ⊢
    rw [List.any_cons, List.filter_cons]
    cases h : (y.b == -1)
    · simp only [sameKeyLeaf, h, Bool.false_and, Bool.false_or, Bool.false_eq_true, if_false]; exact ih
    · have e : sameKeyLeaf x y = eqK x.k y.k := by unfold sameKeyLeaf eqK; rw [h, Bool.true_and, Bool.beq_comm]
      rw [if_pos rfl, List.map_cons, List.any_cons, e, ih]
theorem rLeaf_eq (l : List Nd) (i f : Nat) (keys : List ByteArray) (hk : keys = keysL (l.take i)) (hf : otherK keys (l.getD i nd0) = (((l.getD i nd0).k.size : Int) != ((l.getD f nd0).k.size : Int))) :
    rLeafE l i f = if (leafE (l.getD i nd0) != 0) = true then leafE (l.getD i nd0) else lvB keys (l.getD i nd0) (risD (rsOf (l.getD i nd0))) := by
  unfold rLeafE lvB
  rw [hf, dup_eq, ← hk, rEnts_eq]
  generalize l.getD i nd0 = x
  unfold leafE
  by_cases h0 : (rsOf x).length = 0
  · rw [if_pos h0, if_pos h0, if_pos (by decide)]
  rw [if_neg h0, if_neg h0]
  by_cases h1 : (entsErr x.k (rsOf x) != 0) = true
  · rw [if_pos h1, if_pos h1]
  rw [if_neg h1, if_neg h1]
  simp only [first, cond]
  cases ((x.k.size : Int) != ((l.getD f nd0).k.size : Int))
  · cases risD (rsOf x)
    · rfl
    · cases decide (findI (eqK x.k) keys 0 ≥ 0) <;> rfl
  · rfl
theorem rLv_eq (l : List Nd) : ∀ (n i : Nat) (f : Int), n = l.length - i → i ≤ l.length → ((f = -1 ∧ keysL (l.take i) = []) ∨ ∃ k : Nat, f = k ∧ 0 < (keysL (l.take i)).length ∧ ((keysL (l.take i)).getD 0 (bs [])).size = (l.getD k nd0).k.size) →
    lvE (l.drop i) i (keysL (l.take i)) (entsF (l.take i)).length = if ((rLv l n i f).2 != 0) = true then rLv l n i f else (0, cond (decide (((entsF l).length : Int) > 120)) 30)
  | 0, i, f, hn, hi, hf => by
    have : i = l.length := by clear hf; omega
    subst this
    rw [List.drop_length, List.take_length]
    rfl
  | n + 1, i, f, hn, hi, hf => by
    have hlt : i < l.length := by clear hf; omega
    have hn1 : n = l.length - (i + 1) := by clear hf; omega
    rw [drop_cons nd0 hlt]
    have hs := keysL_succ hlt
    have he := entsF_succ hlt
    have rl : rLv l (n + 1) i f = if ((l.getD i nd0).b != -1) = true then rLv l n (i + 1) f else if (rLeafE l i (fstL f i) != 0) = true then (i, rLeafE l i (fstL f i)) else rLv l n (i + 1) (fstL f i) := rfl
    simp only [lvE]
    by_cases hb : ((l.getD i nd0).b != -1) = true
    · rw [if_pos hb] at rl
      rw [if_pos hb, rl]
      have hb' : ((l.getD i nd0).b == -1) = false := by simpa [bne] using hb
      rw [hb', if_neg (by decide), List.append_nil] at hs
      have hx : entsX (l.getD i nd0) = [] := by unfold entsX; rw [if_pos hb]
      rw [hx, List.append_nil] at he
      rw [← hs, ← he]
      exact rLv_eq l n (i + 1) f hn1 hlt (by rw [hs]; exact hf)
    · rw [if_neg hb] at rl
      rw [if_neg hb]
      have hb' : ((l.getD i nd0).b == -1) = true := by simpa [bne] using hb
      rw [hb', if_pos rfl] at hs
      have hx : entsX (l.getD i nd0) = entsN (l.getD i nd0) := by unfold entsX; rw [if_neg hb]
      rw [hx] at he
      have hfo : otherK (keysL (l.take i)) (l.getD i nd0) = (((l.getD i nd0).k.size : Int) != ((l.getD (fstL f i) nd0).k.size : Int)) := by
        rcases hf with ⟨rfl, h0⟩ | ⟨k, rfl, h0, h1⟩
        · have : fstL (-1) i = i := rfl
          rw [this, h0]
          simp [otherK]
        · have : fstL (k : Int) i = k := by unfold fstL; rw [if_neg (by simp)]; simp
          have hd : decide (((keysL (l.take i)).length : Int) > 0) = true := by simp; omega
          rw [this]; unfold otherK
          rw [hd, Bool.true_and, h1]
          rw [Bool.eq_iff_iff]; simp only [bne_iff_ne, ne_eq]; exact not_congr eq_comm
      have hr := rLeaf_eq l i (fstL f i) (keysL (l.take i)) rfl hfo
      by_cases hq : (leafE (l.getD i nd0) != 0) = true
      · rw [if_pos hq] at hr ⊢
        rw [hr, if_pos hq] at rl
        rw [rl, if_pos hq]
      rw [if_neg hq] at hr ⊢
      by_cases hq2 : (lvB (keysL (l.take i)) (l.getD i nd0) (risD (rsOf (l.getD i nd0))) != 0) = true
      · rw [if_pos hq2]
        rw [hr, if_pos hq2] at rl
        rw [rl, if_pos hq2]
      rw [hr, if_neg hq2] at rl
      rw [if_neg hq2, rl]
      have hlen : (entsF (l.take i)).length + (rsOf (l.getD i nd0)).length = (entsF (l.take (i + 1))).length := by rw [he, List.length_append, entsN_len]
      rw [hlen, ← hs]
      refine rLv_eq l n (i + 1) (fstL f i) hn1 hlt (.inr ⟨fstL f i, rfl, by rw [hs]; simp, ?_⟩)
      rw [hs]
      rcases hf with ⟨rfl, h0⟩ | ⟨k, rfl, h0, h1⟩
      · have : fstL (-1) i = i := rfl
        rw [this, h0]; rfl
      · have : fstL (k : Int) i = k := by unfold fstL; rw [if_neg (by simp)]; simp
        rw [this, ← h1]
        simp only [List.getD_eq_getElem?_getD, List.getElem?_append_left h0]
theorem lvE_eq (l : List Nd) : lvE l 0 [] 0 = if ((rLv l l.length 0 (-1)).2 != 0) = true then rLv l l.length 0 (-1) else (0, cond (decide (((entsF l).length : Int) > 120)) 30) := by
  have := rLv_eq l l.length 0 (-1) (by omega) (Nat.zero_le _) (.inl ⟨rfl, rfl⟩)
  exact this
end Go.Nv
/- BY VALUE: chapter 27, trees (7): the reference's check. -/
namespace Go.Nv
variable {S : RT}
attribute [local congr] ite_congr congr_bindOps congr_bindC congr_bindD congr_onE congr_onA congr_onBool congr_onEff congr_headC congr_ob congr_ob2 congr_onI congr_onS congr_onAg congr_onTu congr_onRow congr_obO congr_takeR congr_ldV congr_ldN congr_iaV congr_onMap congr_stP congr_appA congr_frzR congr_onFn congr_fzV congr_callM congr_callN congr_onIo congr_giveR congr_rowS congr_bxS congr_bxC congr_rnR congr_rnP congr_onFin
set_option maxRecDepth 100000
set_option maxHeartbeats 40000000
theorem run22 (l : List Nd) (hl : l.length ≤ 1000) (hr : ∀ x ∈ l, (rsOf x).length ≤ 1000) : run T S 22 [.sl (l.map encN)] = some (pairN (chkF l)) := by
  unfold chkF
  by_cases h : (l.length : Int) > 240
  · have h' : decide ((l.length : Int) > 240) = true := by simpa using h
    rw [if_pos h']
    (refine run_fn T22 ⟨rfl, by decide, by rfl⟩ ?_; rw [start22, body22, B22]; dsimp only [ov, oo, og])
    simp (config := {decide := true, contextual := true, maxSteps := 5000000}) only [enc_len, h', pairN, np22, res22, ↓simPre, simPost, capt_pure, argV_ro, argV_le, expo_pure, refsL_pure, isL_pure, k0_pure, k1_pure, ren0_pure, ren1_pure, sT_pure, sO_pure, bxGo_pure, resGo_pure, inst_pure, inst_rows, inst_bx, resP_go, viewT_pure, outs_skip, fzV_pure, bxL_pure, bxOf_pure, rowsOf_pure, rows1_pure, name1_pure, nameB1_pure, simR, reduceCtorEq, ↓reduceIte, splice, Nat.reduceAdd, Nat.reduceLT, Nat.reduceLeDiff, Nat.reduceEqDiff, Nat.reduceSub, noPtr, isPtr, notAgg, notIo, AV.capt, distinct, covers, O.keys, O.wr, okPair, disj, List.replicate, startOk]
  have h' : decide ((l.length : Int) > 240) = false := by simpa using h
  rw [if_neg (by simpa using h)]
  have hlv := lvE_eq l
  -- what stands behind the leaves
  have htail : ∀ p : Nat × Int, p = rLv l l.length 0 (-1) → (if ((lvE l 0 [] 0).2 != 0) = true then lvE l 0 [] 0 else firstBad (shAt l (treeF (entsF l))) l.length 0)
      = if (p.2 != 0) = true then p else if (lvE l 0 [] 0).2 = 0 then firstBad (shAt l (treeF (entsF l))) l.length 0 else (0, 30) := fun p hp => by
    subst hp
    generalize hX : firstBad (shAt l (treeF (entsF l))) l.length 0 = X
    generalize rLv l l.length 0 (-1) = p at hlv
    rw [hlv]
    by_cases h1 : (p.2 != 0) = true
    · rw [if_pos h1, if_pos h1, if_pos h1]
    · rw [if_neg h1, if_neg h1]
      cases decide (((entsF l).length : Int) > 120) <;> rfl
  rw [htail _ rfl]
  have hgood : (lvE l 0 [] 0).2 = 0 → (entsF l).length ≤ 120 ∧ ∃ n, n ≤ 256 ∧ Len n (entsF l) := fun h => (lvE_good h).2
  have hbig : ((rLv l l.length 0 (-1)).2 != 0) = false → ((lvE l 0 [] 0).2 = 0 ↔ decide (((entsF l).length : Int) > 120) = false) := fun h1 => by
    rw [hlv, h1]
    cases decide (((entsF l).length : Int) > 120) <;> simp [cond]
  clear htail hlv
  generalize (lvE l 0 [] 0).2 = ev at *
  have hf0 : (rLv l (l.length - 0) 0 (-1)) = rLv l l.length 0 (-1) := rfl
  (refine run_fn T22 ⟨rfl, by decide, by rfl⟩ ?_; rw [start22, body22, B22]; dsimp only [ov, oo, og])
  simp (config := {decide := true, contextual := true, maxSteps := 5000000}) only [enc_len, h', np22, res22, ↓simPre, simPost, capt_pure, argV_ro, argV_le, expo_pure, refsL_pure, isL_pure, k0_pure, k1_pure, ren0_pure, ren1_pure, sT_pure, sO_pure, bxGo_pure, resGo_pure, inst_pure, inst_rows, inst_bx, resP_go, viewT_pure, outs_skip, fzV_pure, bxL_pure, bxOf_pure, rowsOf_pure, rows1_pure, name1_pure, nameB1_pure, simR, reduceCtorEq, ↓reduceIte, splice, Nat.reduceAdd, Nat.reduceLT, Nat.reduceLeDiff, Nat.reduceEqDiff, Nat.reduceSub, noPtr, isPtr, notAgg, notIo, AV.capt, distinct, covers, O.keys, O.wr, okPair, disj, List.replicate, startOk]
  refine headC_upd (fun (s : Nat × Int) e => (e.put (some 5) (.int .i64 s.1)).put (some 4) (.int .i64 s.2)) (fun s => some (pairN (if ((rLv l (l.length - s.1) s.1 s.2).2 != 0) = true then rLv l (l.length - s.1) s.1 s.2 else if ev = 0 then firstBad (shAt l (treeF (entsF l))) l.length 0 else (0, 30)))) (fun s => l.length - s.1)
    (fun s => s.1 ≤ l.length ∧ (s.2 = -1 ∨ ∃ k : Nat, s.2 = k ∧ k < l.length) ∧ (rLv l (l.length - s.1) s.1 s.2 = rLv l l.length 0 (-1))) (0, -1) rfl ⟨Nat.zero_le _, .inl rfl, rfl⟩ ?_
  rintro ⟨i, f⟩ ⟨hi, hf, he⟩ ih
  simp only at hi hf he ih
  have cN : ∀ k : Nat, ((k : Int) == -1) = false := fun k => by simp
  by_cases hlt : i < l.length
  · have hn : l.length - i = (l.length - (i + 1)) + 1 := by clear hf; omega
    have rl : rLv l (l.length - i) i f = if ((l.getD i nd0).b != -1) = true then rLv l (l.length - (i + 1)) (i + 1) f else if (rLeafE l i (fstL f i) != 0) = true then (i, rLeafE l i (fstL f i)) else rLv l (l.length - (i + 1)) (i + 1) (fstL f i) := by rw [hn]; rfl
    have h9 := enc_get encN l i nd0 hlt
    simp only [encN] at h9
    by_cases hb : ((l.getD i nd0).b != -1) = true
    · rw [if_pos hb] at rl
      have ih := ih (i + 1, f) ⟨hlt, hf, by rw [← rl]; exact he⟩ (by clear hf; simp only; omega)
      simp only at ih
      simp only [rl]
      simp (config := {decide := true, contextual := true, maxSteps := 5000000}) only [enc_len, castLt hlt, h9, hb, wrap_succ hlt (by clear hf; omega), np22, res22, ↓simPre, simPost, capt_pure, argV_ro, argV_le, expo_pure, refsL_pure, isL_pure, k0_pure, k1_pure, ren0_pure, ren1_pure, sT_pure, sO_pure, bxGo_pure, resGo_pure, inst_pure, inst_rows, inst_bx, resP_go, viewT_pure, outs_skip, fzV_pure, bxL_pure, bxOf_pure, rowsOf_pure, rows1_pure, name1_pure, nameB1_pure, simR, reduceCtorEq, ↓reduceIte, splice, Nat.reduceAdd, Nat.reduceLT, Nat.reduceLeDiff, Nat.reduceEqDiff, Nat.reduceSub, noPtr, isPtr, notAgg, notIo, AV.capt, distinct, covers, O.keys, O.wr, okPair, disj, List.replicate, startOk]
      exact ih
    · have hb' : ((l.getD i nd0).b != -1) = false := by simpa using hb
      rw [if_neg hb] at rl
      have hfl : fstL f i < l.length := by
        rcases hf with rfl | ⟨k, rfl, hk⟩
        · exact hlt
        · have : fstL (k : Int) i = k := by unfold fstL; rw [if_neg (by simp)]; simp
          omega
      have h65 := run65 (S := S) l i (fstL f i) hlt hfl hl hr
      cases hq : (rLeafE l i (fstL f i) != 0)
      · rw [hq, if_neg (by decide)] at rl
        have ih := ih (i + 1, (fstL f i : Int)) ⟨hlt, .inr ⟨_, rfl, hfl⟩, by rw [← rl]; exact he⟩ (by clear hf; simp only; omega)
        simp only at ih
        simp only [rl]
        rcases hf with rfl | ⟨k, rfl, hk⟩
        · have h1 : fstL (-1) i = i := rfl
          rw [h1] at ih h65 hq
          simp only [h1]
          simp (config := {decide := true, contextual := true, maxSteps := 5000000}) only [enc_len, castLt hlt, h9, hb', h65, hq, wrap_succ hlt (by omega), np22, res22, ↓simPre, simPost, capt_pure, argV_ro, argV_le, expo_pure, refsL_pure, isL_pure, k0_pure, k1_pure, ren0_pure, ren1_pure, sT_pure, sO_pure, bxGo_pure, resGo_pure, inst_pure, inst_rows, inst_bx, resP_go, viewT_pure, outs_skip, fzV_pure, bxL_pure, bxOf_pure, rowsOf_pure, rows1_pure, name1_pure, nameB1_pure, simR, reduceCtorEq, ↓reduceIte, splice, Nat.reduceAdd, Nat.reduceLT, Nat.reduceLeDiff, Nat.reduceEqDiff, Nat.reduceSub, noPtr, isPtr, notAgg, notIo, AV.capt, distinct, covers, O.keys, O.wr, okPair, disj, List.replicate, startOk]
          exact ih
        · have h1 : fstL (k : Int) i = k := by unfold fstL; rw [if_neg (by simp)]; simp
          rw [h1] at ih h65 hq
          simp only [h1]
          simp (config := {decide := true, contextual := true, maxSteps := 5000000}) only [enc_len, castLt hlt, h9, hb', cN, h65, hq, wrap_succ hlt (by omega), np22, res22, ↓simPre, simPost, capt_pure, argV_ro, argV_le, expo_pure, refsL_pure, isL_pure, k0_pure, k1_pure, ren0_pure, ren1_pure, sT_pure, sO_pure, bxGo_pure, resGo_pure, inst_pure, inst_rows, inst_bx, resP_go, viewT_pure, outs_skip, fzV_pure, bxL_pure, bxOf_pure, rowsOf_pure, rows1_pure, name1_pure, nameB1_pure, simR, reduceCtorEq, ↓reduceIte, splice, Nat.reduceAdd, Nat.reduceLT, Nat.reduceLeDiff, Nat.reduceEqDiff, Nat.reduceSub, noPtr, isPtr, notAgg, notIo, AV.capt, distinct, covers, O.keys, O.wr, okPair, disj, List.replicate, startOk]
          exact ih
      · rw [hq, if_pos rfl] at rl
        simp only [rl, hq, if_true]
        rcases hf with rfl | ⟨k, rfl, hk⟩
        · have h1 : fstL (-1) i = i := rfl
          rw [h1] at h65 hq
          simp only [h1]
          simp (config := {decide := true, contextual := true, maxSteps := 5000000}) only [enc_len, castLt hlt, h9, hb', h65, hq, pairN, np22, res22, ↓simPre, simPost, capt_pure, argV_ro, argV_le, expo_pure, refsL_pure, isL_pure, k0_pure, k1_pure, ren0_pure, ren1_pure, sT_pure, sO_pure, bxGo_pure, resGo_pure, inst_pure, inst_rows, inst_bx, resP_go, viewT_pure, outs_skip, fzV_pure, bxL_pure, bxOf_pure, rowsOf_pure, rows1_pure, name1_pure, nameB1_pure, simR, reduceCtorEq, ↓reduceIte, splice, Nat.reduceAdd, Nat.reduceLT, Nat.reduceLeDiff, Nat.reduceEqDiff, Nat.reduceSub, noPtr, isPtr, notAgg, notIo, AV.capt, distinct, covers, O.keys, O.wr, okPair, disj, List.replicate, startOk]
        · have h1 : fstL (k : Int) i = k := by unfold fstL; rw [if_neg (by simp)]; simp
          rw [h1] at h65 hq
          simp only [h1]
          simp (config := {decide := true, contextual := true, maxSteps := 5000000}) only [enc_len, castLt hlt, h9, hb', cN, h65, hq, pairN, np22, res22, ↓simPre, simPost, capt_pure, argV_ro, argV_le, expo_pure, refsL_pure, isL_pure, k0_pure, k1_pure, ren0_pure, ren1_pure, sT_pure, sO_pure, bxGo_pure, resGo_pure, inst_pure, inst_rows, inst_bx, resP_go, viewT_pure, outs_skip, fzV_pure, bxL_pure, bxOf_pure, rowsOf_pure, rows1_pure, name1_pure, nameB1_pure, simR, reduceCtorEq, ↓reduceIte, splice, Nat.reduceAdd, Nat.reduceLT, Nat.reduceLeDiff, Nat.reduceEqDiff, Nat.reduceSub, noPtr, isPtr, notAgg, notIo, AV.capt, distinct, covers, O.keys, O.wr, okPair, disj, List.replicate, startOk]
  · have : i = l.length := by clear hf; omega
    subst this
    have h0 : rLv l (l.length - l.length) l.length f = (0, 0) := by rw [Nat.sub_self]; rfl
    rw [h0] at he
    have hb2 := hbig (by rw [← he]; rfl)
    have h66 := run66 (S := S) l hl hr
    simp only [h0, bne_self_eq_false, Bool.false_eq_true, if_false]
    cases hd : decide (((entsF l).length : Int) > 120)
    · have hev : ev = 0 := hb2.2 hd
      rw [if_pos hev]
      obtain ⟨g2, n, g3, g4⟩ := hgood hev
      have h18 := run18 (S := S) (entsF l) n (by clear hf; omega) g4 (by clear hf; omega)
      have hb := treeF_bounds g4
      generalize treeF (entsF l) = w at *
      have hw : w.length ≤ 240 := by clear hf; omega
      have vp := ndPure w
      clear hb ih he hb2 hbig hgood hf
      cases hfl : flats (w.map encV) <;> (
        simp (config := {decide := true, contextual := true, maxSteps := 5000000}) only [enc_len, castNlt (Nat.lt_irrefl _), h66, hd, h18, entPure, vp, hfl, np22, res22, ↓simPre, simPost, capt_pure, argV_ro, argV_le, expo_pure, refsL_pure, isL_pure, k0_pure, k1_pure, ren0_pure, ren1_pure, sT_pure, sO_pure, bxGo_pure, resGo_pure, inst_pure, inst_rows, inst_bx, resP_go, viewT_pure, outs_skip, fzV_pure, bxL_pure, bxOf_pure, rowsOf_pure, rows1_pure, name1_pure, nameB1_pure, simR, reduceCtorEq, ↓reduceIte, splice, Nat.reduceAdd, Nat.reduceLT, Nat.reduceLeDiff, Nat.reduceEqDiff, Nat.reduceSub, noPtr, isPtr, notAgg, notIo, AV.capt, distinct, covers, O.keys, O.wr, okPair, disj, List.replicate, startOk]
        refine headC_range l.length (fun i e => e.put (some 9) (.int .i64 i)) (fun i => some (pairN (firstBad (shAt l w) (l.length - i) i))) rfl ?_ ?_
        · simp (config := {decide := true, contextual := true, maxSteps := 5000000}) only [enc_len, castNlt (Nat.lt_irrefl _), Nat.sub_self, firstBad, pairN, np22, res22, ↓simPre, simPost, capt_pure, argV_ro, argV_le, expo_pure, refsL_pure, isL_pure, k0_pure, k1_pure, ren0_pure, ren1_pure, sT_pure, sO_pure, bxGo_pure, resGo_pure, inst_pure, inst_rows, inst_bx, resP_go, viewT_pure, outs_skip, fzV_pure, bxL_pure, bxOf_pure, rowsOf_pure, rows1_pure, name1_pure, nameB1_pure, simR, reduceCtorEq, ↓reduceIte, splice, Nat.reduceAdd, Nat.reduceLT, Nat.reduceLeDiff, Nat.reduceEqDiff, Nat.reduceSub, noPtr, isPtr, notAgg, notIo, AV.capt, distinct, covers, O.keys, O.wr, okPair, disj, List.replicate, startOk]
        · intro i hlt ih
          rw [firstBad_succ _ _ _ hlt]
          have h9 := enc_get encN l i nd0 hlt
          have hx := hr _ (mem_at hlt)
          have hsh : shAt l w i = if (decide ((i : Int) ≥ (w.length : Int)) || !sameN (l.getD i nd0) (w.getD i nd0)) = true then 6 else 0 := rfl
          by_cases hi : i < w.length
          · have z1 : decide ((i : Int) ≥ (w.length : Int)) = false := decide_eq_false (by omega)
            have e6 := enc_get encV w i nd0 hi
            have e11 := enc_get? encV w i nd0 hi
            have h57 := run57 (S := S) (l.getD i nd0) (w.getD i nd0) (by omega)
            rw [z1, Bool.false_or] at hsh
            generalize l.getD i nd0 = x at *
            generalize w.getD i nd0 = y at *
            cases hq3 : sameN x y
            · rw [hq3] at hsh
              have hsh : shAt l w i = 6 := hsh
              rw [hsh, if_pos (by decide)]
              cases hy : y.leaf <;> simp only [encV, hy, encN, rsOf, Bool.false_eq_true, if_false, if_true, ints, List.map_nil] at e6 e11 h9 h57
              all_goals simp (config := {decide := true, contextual := true, maxSteps := 5000000}) only [enc_len, castLt hlt, castLt hi, h9, e6, e11, z1, h57, hq3, pairN, ints, np22, res22, ↓simPre, simPost, capt_pure, argV_ro, argV_le, expo_pure, refsL_pure, isL_pure, k0_pure, k1_pure, ren0_pure, ren1_pure, sT_pure, sO_pure, bxGo_pure, resGo_pure, inst_pure, inst_rows, inst_bx, resP_go, viewT_pure, outs_skip, fzV_pure, bxL_pure, bxOf_pure, rowsOf_pure, rows1_pure, name1_pure, nameB1_pure, simR, reduceCtorEq, ↓reduceIte, splice, Nat.reduceAdd, Nat.reduceLT, Nat.reduceLeDiff, Nat.reduceEqDiff, Nat.reduceSub, noPtr, isPtr, notAgg, notIo, AV.capt, distinct, covers, O.keys, O.wr, okPair, disj, List.replicate, startOk]
            · rw [hq3] at hsh
              have hsh : shAt l w i = 0 := hsh
              rw [hsh, if_neg (by decide)]
              cases hy : y.leaf <;> simp only [encV, hy, encN, rsOf, Bool.false_eq_true, if_false, if_true, ints, List.map_nil] at e6 e11 h9 h57
              all_goals simp (config := {decide := true, contextual := true, maxSteps := 5000000}) only [enc_len, castLt hlt, castLt hi, h9, e6, e11, z1, h57, hq3, ints, wrap_succ hlt (by omega), np22, res22, ↓simPre, simPost, capt_pure, argV_ro, argV_le, expo_pure, refsL_pure, isL_pure, k0_pure, k1_pure, ren0_pure, ren1_pure, sT_pure, sO_pure, bxGo_pure, resGo_pure, inst_pure, inst_rows, inst_bx, resP_go, viewT_pure, outs_skip, fzV_pure, bxL_pure, bxOf_pure, rowsOf_pure, rows1_pure, name1_pure, nameB1_pure, simR, reduceCtorEq, ↓reduceIte, splice, Nat.reduceAdd, Nat.reduceLT, Nat.reduceLeDiff, Nat.reduceEqDiff, Nat.reduceSub, noPtr, isPtr, notAgg, notIo, AV.capt, distinct, covers, O.keys, O.wr, okPair, disj, List.replicate, startOk]
              all_goals exact ih
          · have z1 : decide ((i : Int) ≥ (w.length : Int)) = true := decide_eq_true (by omega)
            rw [z1] at hsh
            have hsh : shAt l w i = 6 := hsh
            rw [hsh, if_pos (by decide)]
            simp only [encN] at h9
            simp (config := {decide := true, contextual := true, maxSteps := 5000000}) only [enc_len, castLt hlt, h9, z1, pairN, np22, res22, ↓simPre, simPost, capt_pure, argV_ro, argV_le, expo_pure, refsL_pure, isL_pure, k0_pure, k1_pure, ren0_pure, ren1_pure, sT_pure, sO_pure, bxGo_pure, resGo_pure, inst_pure, inst_rows, inst_bx, resP_go, viewT_pure, outs_skip, fzV_pure, bxL_pure, bxOf_pure, rowsOf_pure, rows1_pure, name1_pure, nameB1_pure, simR, reduceCtorEq, ↓reduceIte, splice, Nat.reduceAdd, Nat.reduceLT, Nat.reduceLeDiff, Nat.reduceEqDiff, Nat.reduceSub, noPtr, isPtr, notAgg, notIo, AV.capt, distinct, covers, O.keys, O.wr, okPair, disj, List.replicate, startOk])
    · have hev : ¬ ev = 0 := fun hh => by rw [hb2.1 hh] at hd; cases hd
      rw [if_neg hev]
      simp (config := {decide := true, contextual := true, maxSteps := 5000000}) only [enc_len, castNlt (Nat.lt_irrefl _), h66, hd, pairN, np22, res22, ↓simPre, simPost, capt_pure, argV_ro, argV_le, expo_pure, refsL_pure, isL_pure, k0_pure, k1_pure, ren0_pure, ren1_pure, sT_pure, sO_pure, bxGo_pure, resGo_pure, inst_pure, inst_rows, inst_bx, resP_go, viewT_pure, outs_skip, fzV_pure, bxL_pure, bxOf_pure, rowsOf_pure, rows1_pure, name1_pure, nameB1_pure, simR, reduceCtorEq, ↓reduceIte, splice, Nat.reduceAdd, Nat.reduceLT, Nat.reduceLeDiff, Nat.reduceEqDiff, Nat.reduceSub, noPtr, isPtr, notAgg, notIo, AV.capt, distinct, covers, O.keys, O.wr, okPair, disj, List.replicate, startOk]
end Go.Nv
/- BY VALUE: chapter 27, a law: which lists of nodes are trees. -/
namespace Go.Nv
variable {S : RT}
attribute [local congr] ite_congr congr_bindOps congr_bindC congr_bindD congr_onE congr_onA congr_onBool congr_onEff congr_headC congr_ob congr_ob2 congr_onI congr_onS congr_onAg congr_onTu congr_onRow congr_obO congr_takeR congr_ldV congr_ldN congr_iaV congr_onMap congr_stP congr_appA congr_frzR congr_onFn congr_fzV congr_callM congr_callN congr_onIo congr_giveR congr_rowS congr_bxS congr_bxC congr_rnR congr_rnP congr_onFin
set_option maxRecDepth 100000
set_option maxHeartbeats 40000000
theorem run23 (l : List Nd) (hl : l.length ≤ 1000) (hr : ∀ x ∈ l, (rsOf x).length ≤ 1000) : run T S 23 [.sl (l.map encN)] = some (.int .i64 (chkF l).2) := by
  have h := run22 (S := S) l hl hr
  simp only [pairN] at h
  (refine run_fn T23 ⟨rfl, by decide, by rfl⟩ ?_; rw [start23, body23, B23]; dsimp only [ov, oo, og])
  simp (config := {decide := true, contextual := true, maxSteps := 5000000}) only [h, np23, res23, ↓simPre, simPost, capt_pure, argV_ro, argV_le, expo_pure, refsL_pure, isL_pure, k0_pure, k1_pure, ren0_pure, ren1_pure, sT_pure, sO_pure, bxGo_pure, resGo_pure, inst_pure, inst_rows, inst_bx, resP_go, viewT_pure, outs_skip, fzV_pure, bxL_pure, bxOf_pure, rowsOf_pure, rows1_pure, name1_pure, nameB1_pure, simR, reduceCtorEq, ↓reduceIte, splice, Nat.reduceAdd, Nat.reduceLT, Nat.reduceLeDiff, Nat.reduceEqDiff, Nat.reduceSub, noPtr, isPtr, notAgg, notIo, AV.capt, distinct, covers, O.keys, O.wr, okPair, disj, List.replicate, startOk]
theorem run67 (hS : S27 S) (l : List Nd) (hl : l.length ≤ 1000) (hr : ∀ x ∈ l, (rsOf x).length ≤ 1000) : run T S 67 [.sl (l.map encN)] = some (.int .i64 (chkF l).2) := by
  have h := run20 hS l hl hr
  simp only [pairN] at h
  (refine run_fn T67 ⟨rfl, by decide, by rfl⟩ ?_; rw [start67, body67, B67]; dsimp only [ov, oo, og])
  simp (config := {decide := true, contextual := true, maxSteps := 5000000}) only [h, np67, res67, ↓simPre, simPost, capt_pure, argV_ro, argV_le, expo_pure, refsL_pure, isL_pure, k0_pure, k1_pure, ren0_pure, ren1_pure, sT_pure, sO_pure, bxGo_pure, resGo_pure, inst_pure, inst_rows, inst_bx, resP_go, viewT_pure, outs_skip, fzV_pure, bxL_pure, bxOf_pure, rowsOf_pure, rows1_pure, name1_pure, nameB1_pure, simR, reduceCtorEq, ↓reduceIte, splice, Nat.reduceAdd, Nat.reduceLT, Nat.reduceLeDiff, Nat.reduceEqDiff, Nat.reduceSub, noPtr, isPtr, notAgg, notIo, AV.capt, distinct, covers, O.keys, O.wr, okPair, disj, List.replicate, startOk]
theorem few_bounds {l : List Nd} (h : fewT l = true) : l.length ≤ 250 ∧ ∀ x ∈ l, x.k.size ≤ 300 ∧ (rsOf x).length ≤ 130 := by
  simp only [fewT, Bool.and_eq_true, Bool.not_eq_true', decide_eq_false_iff_not, List.all_eq_true] at h
  refine ⟨by omega, fun x hx => ?_⟩
  have := h.2 x hx
  simp only [fewN, Bool.and_eq_true, Bool.not_eq_true', decide_eq_false_iff_not] at this
  omega
theorem viewT_own (l : List Nd) : viewT (.row 97 5 ((ownF l).map encR)) = some (.sl (l.map encN)) := by
  rw [viewT_nodes]
  unfold ownF
  rw [List.map_map]; rfl
theorem run4 (hS : S27 S) (l : List Nd) : run T S 4 [.sl (l.map encN)] = some (.bool true) := by
  have k12 := run12 hS
  have k19 := run19 (S := S) l
  by_cases hf : fewT l = true
  · obtain ⟨b1, b2⟩ := few_bounds hf
    have hl : l.length ≤ 1000 := by omega
    have hr : ∀ x ∈ l, (rsOf x).length ≤ 1000 := fun x hx => by have := (b2 x hx).2; omega
    have k20 := run20 hS l hl hr
    have k21 := run21 (S := S) l hl hr
    have k22 := run22 (S := S) l hl hr
    have vo := viewT_own l
    simp only [pairN] at k20 k22
    generalize chkF l = p at *
    have z0 : ((p.1 : Int) == (p.1 : Int)) = true := by simp
    have z1 : (p.2 == p.2) = true := by simp
    cases hfl : flats ((ownF l).map encR) <;> (
      (refine run_fn T4 ⟨rfl, by decide, by rfl⟩ ?_; rw [start4, body4, B4]; dsimp only [ov, oo, og])
      simp (config := {decide := true, contextual := true, maxSteps := 5000000}) only [k12, k19, k20, k21, k22, hf, vo, z0, z1, hfl, np4, res4, ↓simPre, simPost, capt_pure, argV_ro, argV_le, expo_pure, refsL_pure, isL_pure, k0_pure, k1_pure, ren0_pure, ren1_pure, sT_pure, sO_pure, bxGo_pure, resGo_pure, inst_pure, inst_rows, inst_bx, resP_go, viewT_pure, outs_skip, fzV_pure, bxL_pure, bxOf_pure, rowsOf_pure, rows1_pure, name1_pure, nameB1_pure, simR, reduceCtorEq, ↓reduceIte, splice, Nat.reduceAdd, Nat.reduceLT, Nat.reduceLeDiff, Nat.reduceEqDiff, Nat.reduceSub, noPtr, isPtr, notAgg, notIo, AV.capt, distinct, covers, O.keys, O.wr, okPair, disj, List.replicate, startOk])
  · have hf' : fewT l = false := by simpa using hf
    (refine run_fn T4 ⟨rfl, by decide, by rfl⟩ ?_; rw [start4, body4, B4]; dsimp only [ov, oo, og])
    simp (config := {decide := true, contextual := true, maxSteps := 5000000}) only [k12, k19, hf', np4, res4, ↓simPre, simPost, capt_pure, argV_ro, argV_le, expo_pure, refsL_pure, isL_pure, k0_pure, k1_pure, ren0_pure, ren1_pure, sT_pure, sO_pure, bxGo_pure, resGo_pure, inst_pure, inst_rows, inst_bx, resP_go, viewT_pure, outs_skip, fzV_pure, bxL_pure, bxOf_pure, rowsOf_pure, rows1_pure, name1_pure, nameB1_pure, simR, reduceCtorEq, ↓reduceIte, splice, Nat.reduceAdd, Nat.reduceLT, Nat.reduceLeDiff, Nat.reduceEqDiff, Nat.reduceSub, noPtr, isPtr, notAgg, notIo, AV.capt, distinct, covers, O.keys, O.wr, okPair, disj, List.replicate, startOk]
end Go.Nv
/- BY VALUE: chapter 27, places (1): beginnings of keys, positions. -/
namespace Go.Nv
variable {S : RT}
attribute [local congr] ite_congr congr_bindOps congr_bindC congr_bindD congr_onE congr_onA congr_onBool congr_onEff congr_headC congr_ob congr_ob2 congr_onI congr_onS congr_onAg congr_onTu congr_onRow congr_obO congr_takeR congr_ldV congr_ldN congr_iaV congr_onMap congr_stP congr_appA congr_frzR congr_onFn congr_fzV congr_callM congr_callN congr_onIo congr_giveR congr_rowS congr_bxS congr_bxC congr_rnR congr_rnP congr_onFin
set_option maxRecDepth 100000
set_option maxHeartbeats 40000000
def pfx (k s : ByteArray) : Bool := decide ((k.size : Int) ≥ (s.size : Int)) && ((k.extract 0 s.size).toList == s.toList)
theorem run125 (k s : ByteArray) : run T S 125 [.str k, .str s] = some (.bool (pfx k s)) := by
  by_cases h : s.size ≤ k.size
  · have h1 : decide ((k.size : Int) ≥ (s.size : Int)) = true := decide_eq_true (by omega)
    have h2 : ((s.size : Int) ≤ (k.size : Int)) = True := eq_true (by omega)
    (refine run_fn T125 ⟨rfl, by decide, by rfl⟩ ?_; rw [start125, body125, B125]; dsimp only [ov, oo, og])
    simp (config := {decide := true, contextual := true, maxSteps := 5000000}) only [pfx, h1, h2, np125, res125, ↓simPre, simPost, capt_pure, argV_ro, argV_le, expo_pure, refsL_pure, isL_pure, k0_pure, k1_pure, ren0_pure, ren1_pure, sT_pure, sO_pure, bxGo_pure, resGo_pure, inst_pure, inst_rows, inst_bx, resP_go, viewT_pure, outs_skip, fzV_pure, bxL_pure, bxOf_pure, rowsOf_pure, rows1_pure, name1_pure, nameB1_pure, simR, reduceCtorEq, ↓reduceIte, splice, Nat.reduceAdd, Nat.reduceLT, Nat.reduceLeDiff, Nat.reduceEqDiff, Nat.reduceSub, noPtr, isPtr, notAgg, notIo, AV.capt, distinct, covers, O.keys, O.wr, okPair, disj, List.replicate, startOk]
  · have h1 : decide ((k.size : Int) ≥ (s.size : Int)) = false := decide_eq_false (by omega)
    (refine run_fn T125 ⟨rfl, by decide, by rfl⟩ ?_; rw [start125, body125, B125]; dsimp only [ov, oo, og])
    simp (config := {decide := true, contextual := true, maxSteps := 5000000}) only [pfx, h1, np125, res125, ↓simPre, simPost, capt_pure, argV_ro, argV_le, expo_pure, refsL_pure, isL_pure, k0_pure, k1_pure, ren0_pure, ren1_pure, sT_pure, sO_pure, bxGo_pure, resGo_pure, inst_pure, inst_rows, inst_bx, resP_go, viewT_pure, outs_skip, fzV_pure, bxL_pure, bxOf_pure, rowsOf_pure, rows1_pure, name1_pure, nameB1_pure, simR, reduceCtorEq, ↓reduceIte, splice, Nat.reduceAdd, Nat.reduceLT, Nat.reduceLeDiff, Nat.reduceEqDiff, Nat.reduceSub, noPtr, isPtr, notAgg, notIo, AV.capt, distinct, covers, O.keys, O.wr, okPair, disj, List.replicate, startOk]
theorem run95 (k s : ByteArray) : run T S 95 [.str k, .str s] = some (.bool (pfx k s)) := by
  have h := run125 (S := S) k s
  (refine run_fn T95 ⟨rfl, by decide, by rfl⟩ ?_; rw [start95, body95, B95]; dsimp only [ov, oo, og])
  simp (config := {decide := true, contextual := true, maxSteps := 5000000}) only [h, np95, res95, ↓simPre, simPost, capt_pure, argV_ro, argV_le, expo_pure, refsL_pure, isL_pure, k0_pure, k1_pure, ren0_pure, ren1_pure, sT_pure, sO_pure, bxGo_pure, resGo_pure, inst_pure, inst_rows, inst_bx, resP_go, viewT_pure, outs_skip, fzV_pure, bxL_pure, bxOf_pure, rowsOf_pure, rows1_pure, name1_pure, nameB1_pure, simR, reduceCtorEq, ↓reduceIte, splice, Nat.reduceAdd, Nat.reduceLT, Nat.reduceLeDiff, Nat.reduceEqDiff, Nat.reduceSub, noPtr, isPtr, notAgg, notIo, AV.capt, distinct, covers, O.keys, O.wr, okPair, disj, List.replicate, startOk]
theorem run69 (k s : ByteArray) : run T S 69 [.str k, .str s] = some (.bool (pfx k s)) := by
  by_cases h : s.size ≤ k.size
  · have h1 : decide ((k.size : Int) ≥ (s.size : Int)) = true := decide_eq_true (by omega)
    have h2 : ((s.size : Int) ≤ (k.size : Int)) = True := eq_true (by omega)
    (refine run_fn T69 ⟨rfl, by decide, by rfl⟩ ?_; rw [start69, body69, B69]; dsimp only [ov, oo, og])
    simp (config := {decide := true, contextual := true, maxSteps := 5000000}) only [pfx, h1, h2, np69, res69, ↓simPre, simPost, capt_pure, argV_ro, argV_le, expo_pure, refsL_pure, isL_pure, k0_pure, k1_pure, ren0_pure, ren1_pure, sT_pure, sO_pure, bxGo_pure, resGo_pure, inst_pure, inst_rows, inst_bx, resP_go, viewT_pure, outs_skip, fzV_pure, bxL_pure, bxOf_pure, rowsOf_pure, rows1_pure, name1_pure, nameB1_pure, simR, reduceCtorEq, ↓reduceIte, splice, Nat.reduceAdd, Nat.reduceLT, Nat.reduceLeDiff, Nat.reduceEqDiff, Nat.reduceSub, noPtr, isPtr, notAgg, notIo, AV.capt, distinct, covers, O.keys, O.wr, okPair, disj, List.replicate, startOk]
  · have h1 : decide ((k.size : Int) ≥ (s.size : Int)) = false := decide_eq_false (by omega)
    (refine run_fn T69 ⟨rfl, by decide, by rfl⟩ ?_; rw [start69, body69, B69]; dsimp only [ov, oo, og])
    simp (config := {decide := true, contextual := true, maxSteps := 5000000}) only [pfx, h1, np69, res69, ↓simPre, simPost, capt_pure, argV_ro, argV_le, expo_pure, refsL_pure, isL_pure, k0_pure, k1_pure, ren0_pure, ren1_pure, sT_pure, sO_pure, bxGo_pure, resGo_pure, inst_pure, inst_rows, inst_bx, resP_go, viewT_pure, outs_skip, fzV_pure, bxL_pure, bxOf_pure, rowsOf_pure, rows1_pure, name1_pure, nameB1_pure, simR, reduceCtorEq, ↓reduceIte, splice, Nat.reduceAdd, Nat.reduceLT, Nat.reduceLeDiff, Nat.reduceEqDiff, Nat.reduceSub, noPtr, isPtr, notAgg, notIo, AV.capt, distinct, covers, O.keys, O.wr, okPair, disj, List.replicate, startOk]
def ltK (k s : ByteArray) : Bool := Op.bytesLess k.toList s.toList
def posOf (s : ByteArray) (b : Bool) (x : En) : Bool := ltK x.k s || (b && pfx x.k s)
def posF (l : List En) (s : ByteArray) (b : Bool) : Nat := l.countP (posOf s b)
theorem posF_le (l : List En) (s : ByteArray) (b : Bool) : posF l s b ≤ l.length := List.countP_le_length
theorem posF_succ {l : List En} {i : Nat} (s : ByteArray) (b : Bool) (h : i < l.length) : posF (l.take (i + 1)) s b = posF (l.take i) s b + (if posOf s b (l.getD i en0) = true then 1 else 0) := by
  rw [take_succ en0 h]; unfold posF; rw [List.countP_append, List.countP_cons, List.countP_nil, Nat.zero_add]
theorem run68 (l : List En) (s : ByteArray) (b : Bool) (hl : l.length ≤ 100000) : run T S 68 [.sl (l.map encE), .str s, .bool b] = some (.int .i64 (posF l s b)) := by
  (refine run_fn T68 ⟨rfl, by decide, by rfl⟩ ?_; rw [start68, body68, B68]; dsimp only [ov, oo, og])
  simp (config := {decide := true, contextual := true, maxSteps := 5000000}) only [enc_len, np68, res68, ↓simPre, simPost, capt_pure, argV_ro, argV_le, expo_pure, refsL_pure, isL_pure, k0_pure, k1_pure, ren0_pure, ren1_pure, sT_pure, sO_pure, bxGo_pure, resGo_pure, inst_pure, inst_rows, inst_bx, resP_go, viewT_pure, outs_skip, fzV_pure, bxL_pure, bxOf_pure, rowsOf_pure, rows1_pure, name1_pure, nameB1_pure, simR, reduceCtorEq, ↓reduceIte, splice, Nat.reduceAdd, Nat.reduceLT, Nat.reduceLeDiff, Nat.reduceEqDiff, Nat.reduceSub, noPtr, isPtr, notAgg, notIo, AV.capt, distinct, covers, O.keys, O.wr, okPair, disj, List.replicate, startOk]
  refine headC_range l.length (fun i e => (e.put (some 12) (.int .i64 i)).put (some 7) (.int .i64 (posF (l.take i) s b))) (fun _ => some (AV.int .i64 (posF l s b))) rfl ?_ ?_
  · simp (config := {decide := true, contextual := true, maxSteps := 5000000}) only [enc_len, castNlt (Nat.lt_irrefl _), List.take_length, np68, res68, ↓simPre, simPost, capt_pure, argV_ro, argV_le, expo_pure, refsL_pure, isL_pure, k0_pure, k1_pure, ren0_pure, ren1_pure, sT_pure, sO_pure, bxGo_pure, resGo_pure, inst_pure, inst_rows, inst_bx, resP_go, viewT_pure, outs_skip, fzV_pure, bxL_pure, bxOf_pure, rowsOf_pure, rows1_pure, name1_pure, nameB1_pure, simR, reduceCtorEq, ↓reduceIte, splice, Nat.reduceAdd, Nat.reduceLT, Nat.reduceLeDiff, Nat.reduceEqDiff, Nat.reduceSub, noPtr, isPtr, notAgg, notIo, AV.capt, distinct, covers, O.keys, O.wr, okPair, disj, List.replicate, startOk]
  · intro i hlt ih
    have h9 := enc_get encE l i en0 hlt
    have hle := posF_le (l.take i) s b
    rw [List.length_take] at hle
    rw [posF_succ s b hlt] at ih
    generalize posF (l.take i) s b = c at *
    generalize l.getD i en0 = x at *
    have h95 := run95 (S := S) x.k s
    have w1 := wrap_succ (i := c) (n := 100001) (by omega) (by omega)
    simp only [encE] at h9
    cases q1 : ltK x.k s
    · cases b
      · have hp : posOf s false x = false := by unfold posOf; rw [q1]; rfl
        rw [hp, if_neg (by decide), Nat.add_zero] at ih
        simp only [ltK] at q1
        simp (config := {decide := true, contextual := true, maxSteps := 5000000}) only [enc_len, castLt hlt, h9, q1, wrap_succ hlt (by omega), np68, res68, ↓simPre, simPost, capt_pure, argV_ro, argV_le, expo_pure, refsL_pure, isL_pure, k0_pure, k1_pure, ren0_pure, ren1_pure, sT_pure, sO_pure, bxGo_pure, resGo_pure, inst_pure, inst_rows, inst_bx, resP_go, viewT_pure, outs_skip, fzV_pure, bxL_pure, bxOf_pure, rowsOf_pure, rows1_pure, name1_pure, nameB1_pure, simR, reduceCtorEq, ↓reduceIte, splice, Nat.reduceAdd, Nat.reduceLT, Nat.reduceLeDiff, Nat.reduceEqDiff, Nat.reduceSub, noPtr, isPtr, notAgg, notIo, AV.capt, distinct, covers, O.keys, O.wr, okPair, disj, List.replicate, startOk]
        exact ih
      · cases q2 : pfx x.k s
        · have hp : posOf s true x = false := by unfold posOf; rw [q1, q2]; rfl
          rw [hp, if_neg (by decide), Nat.add_zero] at ih
          simp only [ltK] at q1
          simp (config := {decide := true, contextual := true, maxSteps := 5000000}) only [enc_len, castLt hlt, h9, q1, h95, q2, wrap_succ hlt (by omega), np68, res68, ↓simPre, simPost, capt_pure, argV_ro, argV_le, expo_pure, refsL_pure, isL_pure, k0_pure, k1_pure, ren0_pure, ren1_pure, sT_pure, sO_pure, bxGo_pure, resGo_pure, inst_pure, inst_rows, inst_bx, resP_go, viewT_pure, outs_skip, fzV_pure, bxL_pure, bxOf_pure, rowsOf_pure, rows1_pure, name1_pure, nameB1_pure, simR, reduceCtorEq, ↓reduceIte, splice, Nat.reduceAdd, Nat.reduceLT, Nat.reduceLeDiff, Nat.reduceEqDiff, Nat.reduceSub, noPtr, isPtr, notAgg, notIo, AV.capt, distinct, covers, O.keys, O.wr, okPair, disj, List.replicate, startOk]
          exact ih
        · have hp : posOf s true x = true := by unfold posOf; rw [q1, q2]; rfl
          rw [hp, if_pos rfl] at ih
          simp only [ltK] at q1
          simp (config := {decide := true, contextual := true, maxSteps := 5000000}) only [enc_len, castLt hlt, h9, q1, h95, q2, w1, wrap_succ hlt (by omega), np68, res68, ↓simPre, simPost, capt_pure, argV_ro, argV_le, expo_pure, refsL_pure, isL_pure, k0_pure, k1_pure, ren0_pure, ren1_pure, sT_pure, sO_pure, bxGo_pure, resGo_pure, inst_pure, inst_rows, inst_bx, resP_go, viewT_pure, outs_skip, fzV_pure, bxL_pure, bxOf_pure, rowsOf_pure, rows1_pure, name1_pure, nameB1_pure, simR, reduceCtorEq, ↓reduceIte, splice, Nat.reduceAdd, Nat.reduceLT, Nat.reduceLeDiff, Nat.reduceEqDiff, Nat.reduceSub, noPtr, isPtr, notAgg, notIo, AV.capt, distinct, covers, O.keys, O.wr, okPair, disj, List.replicate, startOk]
          exact ih
    · have hp : posOf s b x = true := by unfold posOf; rw [q1]; rfl
      rw [hp, if_pos rfl] at ih
      simp only [ltK] at q1
      simp (config := {decide := true, contextual := true, maxSteps := 5000000}) only [enc_len, castLt hlt, h9, q1, w1, wrap_succ hlt (by omega), np68, res68, ↓simPre, simPost, capt_pure, argV_ro, argV_le, expo_pure, refsL_pure, isL_pure, k0_pure, k1_pure, ren0_pure, ren1_pure, sT_pure, sO_pure, bxGo_pure, resGo_pure, inst_pure, inst_rows, inst_bx, resP_go, viewT_pure, outs_skip, fzV_pure, bxL_pure, bxOf_pure, rowsOf_pure, rows1_pure, name1_pure, nameB1_pure, simR, reduceCtorEq, ↓reduceIte, splice, Nat.reduceAdd, Nat.reduceLT, Nat.reduceLeDiff, Nat.reduceEqDiff, Nat.reduceSub, noPtr, isPtr, notAgg, notIo, AV.capt, distinct, covers, O.keys, O.wr, okPair, disj, List.replicate, startOk]
      exact ih
theorem run26 (l : List En) (s : ByteArray) (b : Bool) (hl : l.length ≤ 100000) : run T S 26 [.sl (l.map encE), .str s, .bool b] = some (.int .i64 (posF l s b)) := by
  (refine run_fn T26 ⟨rfl, by decide, by rfl⟩ ?_; rw [start26, body26, B26]; dsimp only [ov, oo, og])
  simp (config := {decide := true, contextual := true, maxSteps := 5000000}) only [enc_len, np26, res26, ↓simPre, simPost, capt_pure, argV_ro, argV_le, expo_pure, refsL_pure, isL_pure, k0_pure, k1_pure, ren0_pure, ren1_pure, sT_pure, sO_pure, bxGo_pure, resGo_pure, inst_pure, inst_rows, inst_bx, resP_go, viewT_pure, outs_skip, fzV_pure, bxL_pure, bxOf_pure, rowsOf_pure, rows1_pure, name1_pure, nameB1_pure, simR, reduceCtorEq, ↓reduceIte, splice, Nat.reduceAdd, Nat.reduceLT, Nat.reduceLeDiff, Nat.reduceEqDiff, Nat.reduceSub, noPtr, isPtr, notAgg, notIo, AV.capt, distinct, covers, O.keys, O.wr, okPair, disj, List.replicate, startOk]
  refine headC_range l.length (fun i e => (e.put (some 8) (.int .i64 i)).put (some 7) (.int .i64 (posF (l.take i) s b))) (fun _ => some (AV.int .i64 (posF l s b))) rfl ?_ ?_
  · simp (config := {decide := true, contextual := true, maxSteps := 5000000}) only [enc_len, castNlt (Nat.lt_irrefl _), List.take_length, np26, res26, ↓simPre, simPost, capt_pure, argV_ro, argV_le, expo_pure, refsL_pure, isL_pure, k0_pure, k1_pure, ren0_pure, ren1_pure, sT_pure, sO_pure, bxGo_pure, resGo_pure, inst_pure, inst_rows, inst_bx, resP_go, viewT_pure, outs_skip, fzV_pure, bxL_pure, bxOf_pure, rowsOf_pure, rows1_pure, name1_pure, nameB1_pure, simR, reduceCtorEq, ↓reduceIte, splice, Nat.reduceAdd, Nat.reduceLT, Nat.reduceLeDiff, Nat.reduceEqDiff, Nat.reduceSub, noPtr, isPtr, notAgg, notIo, AV.capt, distinct, covers, O.keys, O.wr, okPair, disj, List.replicate, startOk]
  · intro i hlt ih
    have h9 := enc_get encE l i en0 hlt
    have hle := posF_le (l.take i) s b
    rw [List.length_take] at hle
    rw [posF_succ s b hlt] at ih
    generalize posF (l.take i) s b = c at *
    generalize l.getD i en0 = x at *
    have h69 := run69 (S := S) x.k s
    have w1 := wrap_succ (i := c) (n := 100001) (by omega) (by omega)
    simp only [encE] at h9
    cases q1 : ltK x.k s
    · cases b
      · have hp : posOf s false x = false := by unfold posOf; rw [q1]; rfl
        rw [hp, if_neg (by decide), Nat.add_zero] at ih
        simp only [ltK] at q1
        simp (config := {decide := true, contextual := true, maxSteps := 5000000}) only [enc_len, castLt hlt, h9, q1, wrap_succ hlt (by omega), np26, res26, ↓simPre, simPost, capt_pure, argV_ro, argV_le, expo_pure, refsL_pure, isL_pure, k0_pure, k1_pure, ren0_pure, ren1_pure, sT_pure, sO_pure, bxGo_pure, resGo_pure, inst_pure, inst_rows, inst_bx, resP_go, viewT_pure, outs_skip, fzV_pure, bxL_pure, bxOf_pure, rowsOf_pure, rows1_pure, name1_pure, nameB1_pure, simR, reduceCtorEq, ↓reduceIte, splice, Nat.reduceAdd, Nat.reduceLT, Nat.reduceLeDiff, Nat.reduceEqDiff, Nat.reduceSub, noPtr, isPtr, notAgg, notIo, AV.capt, distinct, covers, O.keys, O.wr, okPair, disj, List.replicate, startOk]
        exact ih
      · cases q2 : pfx x.k s
        · have hp : posOf s true x = false := by unfold posOf; rw [q1, q2]; rfl
          rw [hp, if_neg (by decide), Nat.add_zero] at ih
          simp only [ltK] at q1
          simp (config := {decide := true, contextual := true, maxSteps := 5000000}) only [enc_len, castLt hlt, h9, q1, h69, q2, wrap_succ hlt (by omega), np26, res26, ↓simPre, simPost, capt_pure, argV_ro, argV_le, expo_pure, refsL_pure, isL_pure, k0_pure, k1_pure, ren0_pure, ren1_pure, sT_pure, sO_pure, bxGo_pure, resGo_pure, inst_pure, inst_rows, inst_bx, resP_go, viewT_pure, outs_skip, fzV_pure, bxL_pure, bxOf_pure, rowsOf_pure, rows1_pure, name1_pure, nameB1_pure, simR, reduceCtorEq, ↓reduceIte, splice, Nat.reduceAdd, Nat.reduceLT, Nat.reduceLeDiff, Nat.reduceEqDiff, Nat.reduceSub, noPtr, isPtr, notAgg, notIo, AV.capt, distinct, covers, O.keys, O.wr, okPair, disj, List.replicate, startOk]
          exact ih
        · have hp : posOf s true x = true := by unfold posOf; rw [q1, q2]; rfl
          rw [hp, if_pos rfl] at ih
          simp only [ltK] at q1
          simp (config := {decide := true, contextual := true, maxSteps := 5000000}) only [enc_len, castLt hlt, h9, q1, h69, q2, w1, wrap_succ hlt (by omega), np26, res26, ↓simPre, simPost, capt_pure, argV_ro, argV_le, expo_pure, refsL_pure, isL_pure, k0_pure, k1_pure, ren0_pure, ren1_pure, sT_pure, sO_pure, bxGo_pure, resGo_pure, inst_pure, inst_rows, inst_bx, resP_go, viewT_pure, outs_skip, fzV_pure, bxL_pure, bxOf_pure, rowsOf_pure, rows1_pure, name1_pure, nameB1_pure, simR, reduceCtorEq, ↓reduceIte, splice, Nat.reduceAdd, Nat.reduceLT, Nat.reduceLeDiff, Nat.reduceEqDiff, Nat.reduceSub, noPtr, isPtr, notAgg, notIo, AV.capt, distinct, covers, O.keys, O.wr, okPair, disj, List.replicate, startOk]
          exact ih
    · have hp : posOf s b x = true := by unfold posOf; rw [q1]; rfl
      rw [hp, if_pos rfl] at ih
      simp only [ltK] at q1
      simp (config := {decide := true, contextual := true, maxSteps := 5000000}) only [enc_len, castLt hlt, h9, q1, w1, wrap_succ hlt (by omega), np26, res26, ↓simPre, simPost, capt_pure, argV_ro, argV_le, expo_pure, refsL_pure, isL_pure, k0_pure, k1_pure, ren0_pure, ren1_pure, sT_pure, sO_pure, bxGo_pure, resGo_pure, inst_pure, inst_rows, inst_bx, resP_go, viewT_pure, outs_skip, fzV_pure, bxL_pure, bxOf_pure, rowsOf_pure, rows1_pure, name1_pure, nameB1_pure, simR, reduceCtorEq, ↓reduceIte, splice, Nat.reduceAdd, Nat.reduceLT, Nat.reduceLeDiff, Nat.reduceEqDiff, Nat.reduceSub, noPtr, isPtr, notAgg, notIo, AV.capt, distinct, covers, O.keys, O.wr, okPair, disj, List.replicate, startOk]
      exact ih
end Go.Nv
/- Chapter 27, plain facts: the entries of a right tree are in order. -/
namespace Go.Nv
theorem entsF_append (a b : List Nd) : entsF (a ++ b) = entsF a ++ entsF b := by simp [entsF]
theorem entsX_leaf (k : ByteArray) (rs : List Int) : entsX ⟨-1, 0, 0, k, rs, true⟩ = rs.map fun r => ⟨k, r⟩ := rfl
theorem entsX_inner (d : Nat) (x : Nd) (h : x.b = d) : entsX x = [] := by
  unfold entsX; rw [if_pos]; rw [h]; simp
theorem entsF_set {t : List Nd} {n : Nat} (y : Nd) (hn : n < t.length) (h : entsX y = entsX (t.getD n nd0)) : entsF (t.set n y) = entsF t := by
  have e : t.set n y = t.take n ++ y :: t.drop (n + 1) := by rw [List.set_eq_take_append_cons_drop, if_pos hn]
  have e2 : t = t.take n ++ t.getD n nd0 :: t.drop (n + 1) := by
    conv => lhs; rw [← List.take_append_drop n t, drop_cons nd0 hn]
  rw [e, entsF_append]
  conv => rhs; rw [e2, entsF_append]
  congr 1
  have c : ∀ (a : Nd) (q : List Nd), entsF (a :: q) = entsX a ++ entsF q := fun a q => by simp [entsF]
  rw [c, c, h]
theorem entsX_bld {x y : Nd} (h1 : x.b = y.b) (h2 : x.k = y.k) (h3 : rsOf x = rsOf y) : entsX x = entsX y := by
  unfold entsX entsN; rw [h1, h2, h3]
/-- The entries of a tree, as they were. -/
theorem entsF_build : ∀ (f : Nat) (t : List Nd) (l : List En) (n : Nat), l.length ≤ f → 0 < l.length → Srt l → Len n l →
    entsF (buildF f t l) = entsF t ++ l ∧ ∀ i, i < t.length → (entsX ((buildF f t l).getD i nd0) = entsX (t.getD i nd0) ∧ ((buildF f t l).getD i nd0).b = (t.getD i nd0).b)
  | 0, t, l, n, h1, h2, _, _ => by omega
  | f + 1, t, l, n, h1, h2, h3, h4 => by
    simp only [buildF]
    by_cases hk : ((l.getD 0 en0).k.toList == (l.getD (l.length - 1) en0).k.toList) = true
    · rw [if_pos hk]
      have hs := same_keys h3 (eq_of_keys hk)
      constructor
      · rw [entsF_append]
        congr 1
        have : entsF [(⟨-1, 0, 0, (l.getD 0 en0).k, l.map (·.r), true⟩ : Nd)] = (l.map (·.r)).map fun r => ⟨(l.getD 0 en0).k, r⟩ := by
          simp only [entsF, List.flatMap_cons, List.flatMap_nil, List.append_nil, entsX_leaf]
        rw [this, List.map_map]
        conv => rhs; rw [← List.map_id l]
        refine List.map_congr_left fun x hx => ?_
        show (⟨(l.getD 0 en0).k, x.r⟩ : En) = x
        rw [← hs x hx]
      · intro i hi
        have : (t ++ [(⟨-1, 0, 0, (l.getD 0 en0).k, l.map (·.r), true⟩ : Nd)]).getD i nd0 = t.getD i nd0 := by
          simp only [List.getD_eq_getElem?_getD, List.getElem?_append_left hi]
        rw [this]; exact ⟨rfl, rfl⟩
    · rw [if_neg hk]
      obtain ⟨c, c1, c2, c3, _⟩ := cut_spec h3 h4 h2 (by simpa using hk)
      rw [c3, Int.toNat_natCast]
      have l1 : (l.take c).length = c := by rw [List.length_take]; omega
      have l2 : (l.drop c).length = l.length - c := List.length_drop
      generalize diffN (l.getD 0 en0).k (l.getD (l.length - 1) en0).k = d
      have q1 := buildF_len f (t ++ [⟨d, t.length + 1, 0, bs [], [], false⟩]) (l.take c) n (by omega) (by omega) (srt_take h3 c) (len_take h4 c)
      obtain ⟨a1, a2⟩ := entsF_build f (t ++ [⟨d, t.length + 1, 0, bs [], [], false⟩]) (l.take c) n (by omega) (by omega) (srt_take h3 c) (len_take h4 c)
      have hnd := a2 t.length (by simp)
      have ht0 : (t ++ [(⟨d, t.length + 1, 0, bs [], [], false⟩ : Nd)]).getD t.length nd0 = ⟨d, t.length + 1, 0, bs [], [], false⟩ := by simp [List.getD_eq_getElem?_getD]
      rw [ht0] at hnd
      generalize buildF f (t ++ [⟨d, t.length + 1, 0, bs [], [], false⟩]) (l.take c) = t1 at *
      simp only [List.length_append, List.length_cons, List.length_nil] at q1
      have hset : entsX { t1.getD t.length nd0 with rt := t1.length } = entsX (t1.getD t.length nd0) := entsX_bld rfl rfl rfl
      obtain ⟨b1, b2⟩ := entsF_build f (t1.set t.length { t1.getD t.length nd0 with rt := t1.length }) (l.drop c) n (by omega) (by omega) (srt_drop h3 c) (len_drop h4 c)
      constructor
      · rw [b1, entsF_set _ (by omega) hset, a1, entsF_append]
        have : entsF [(⟨d, t.length + 1, 0, bs [], [], false⟩ : Nd)] = [] := by
          simp only [entsF, List.flatMap_cons, List.flatMap_nil, List.append_nil]; exact entsX_inner d _ rfl
        rw [this, List.append_nil, List.append_assoc, List.take_append_drop]
      · intro i hi
        have e1 := b2 i (by rw [List.length_set]; omega)
        have e2 := a2 i (by simp; omega)
        have hne : (t1.set t.length { t1.getD t.length nd0 with rt := t1.length }).getD i nd0 = t1.getD i nd0 := by
          simp only [List.getD_eq_getElem?_getD, List.getElem?_set]; rw [if_neg (by omega)]
        have hg : (t ++ [(⟨d, t.length + 1, 0, bs [], [], false⟩ : Nd)]).getD i nd0 = t.getD i nd0 := by
          simp only [List.getD_eq_getElem?_getD, List.getElem?_append_left hi]
        rw [hne] at e1
        rw [hg] at e2
        exact ⟨e1.1.trans e2.1, e1.2.trans e2.2⟩
theorem entsF_tree {l : List En} {n : Nat} (h : Len n l) : entsF (treeF l) = sortE l := by
  unfold treeF
  split
  · rename_i h0
    have : l = [] := List.length_eq_zero_iff.1 h0
    subst this
    have : sortE [] = [] := List.length_eq_zero_iff.1 (by rw [sortE_len]; rfl)
    rw [this]; rfl
  · rename_i h0
    have := (entsF_build l.length [] (sortE l) n (by rw [sortE_len]; exact Nat.le_refl _) (by rw [sortE_len]; omega) (sortE_srt l) (sortE_Len h)).1
    rw [this]; rfl
/-- What is known of a right tree. -/
theorem sameN_ents {x y : Nd} (h : sameN x y = true) : entsX x = entsX y := by
  simp only [sameN, Bool.and_eq_true, beq_iff_eq] at h
  exact entsX_bld h.1 (by have := h.2.2.2.1; rw [ByteArray.toList_eq, ByteArray.toList_eq] at this; exact ba_ext this) h.2.2.2.2
theorem shAt_zero {l w : List Nd} {i : Nat} (h : shAt l w i = 0) : i < w.length ∧ sameN (l.getD i nd0) (w.getD i nd0) = true := by
  unfold shAt at h
  split at h
  · cases h
  · rename_i hc
    simp only [Bool.or_eq_true, decide_eq_true_eq, Bool.not_eq_true', not_or, Bool.not_eq_false] at hc
    exact ⟨by omega, hc.2⟩
theorem entsF_prefix : ∀ (l w : List Nd), (∀ i, i < l.length → i < w.length ∧ sameN (l.getD i nd0) (w.getD i nd0) = true) → ∃ r, entsF w = entsF l ++ r ∧ r = entsF (w.drop l.length)
  | [], w, _ => ⟨entsF w, by simp [entsF], rfl⟩
  | x :: l, w, h => by
    have h0 := h 0 (by simp)
    cases w with
    | nil => exact absurd h0.1 (by simp)
    | cons y w =>
      obtain ⟨r, hr, hr2⟩ := entsF_prefix l w (fun i hi => by
        have := h (i + 1) (by simp; omega)
        simpa using this)
      have c : ∀ (a : Nd) (q : List Nd), entsF (a :: q) = entsX a ++ entsF q := fun a q => by simp [entsF]
      have hx : entsX x = entsX y := sameN_ents (by simpa using h0.2)
      exact ⟨r, by rw [c, c, hx, hr, List.append_assoc], by simpa using hr2⟩
theorem chk_good {l : List Nd} (h : (chkF l).2 = 0) : (chkF l).1 = 0 ∧ Srt (entsF l) ∧ (entsF l).length ≤ 120 ∧ l.length ≤ 240 ∧ (∃ n, n ≤ 256 ∧ Len n (entsF l)) ∧ (∀ i, i < l.length → i < (treeF (entsF l)).length ∧ sameN (l.getD i nd0) ((treeF (entsF l)).getD i nd0) = true) := by
  unfold chkF at h ⊢
  split at h
  · cases h
  · rename_i h0
    rw [if_neg h0]
    split at h
    · rename_i h1
      simp only [bne_iff_ne, ne_eq] at h1
      exact absurd h h1
    · rename_i h1
      rw [if_neg h1]
      obtain ⟨g1, g2, n, g3, g4⟩ := lvE_good (by simpa using h1)
      obtain ⟨b1, b2⟩ := firstBad_zero _ _ _ h
      have hsh := fun i (hi : i < l.length) => shAt_zero (b2 i (Nat.zero_le _) (by omega))
      refine ⟨b1, ?_, g2, by simp at h0; omega, ⟨n, g3, g4⟩, hsh⟩
      obtain ⟨r, hr, _⟩ := entsF_prefix l (treeF (entsF l)) hsh
      rw [entsF_tree g4] at hr
      have hl := congrArg List.length hr
      rw [sortE_len, List.length_append] at hl
      have : r = [] := List.length_eq_zero_iff.1 (by omega)
      rw [this, List.append_nil] at hr
      rw [← hr]; exact sortE_srt _
end Go.Nv
/- BY VALUE: chapter 27, places (2). -/
namespace Go.Nv
variable {S : RT}
attribute [local congr] ite_congr congr_bindOps congr_bindC congr_bindD congr_onE congr_onA congr_onBool congr_onEff congr_headC congr_ob congr_ob2 congr_onI congr_onS congr_onAg congr_onTu congr_onRow congr_obO congr_takeR congr_ldV congr_ldN congr_iaV congr_onMap congr_stP congr_appA congr_frzR congr_onFn congr_fzV congr_callM congr_callN congr_onIo congr_giveR congr_rowS congr_bxS congr_bxC congr_rnR congr_rnP congr_onFin
set_option maxRecDepth 100000
set_option maxHeartbeats 40000000
def errP (l : List Nd) (c : Bool) : Int := first [(chkF l).2, cond c 18]
def posRes (l : List Nd) (s : ByteArray) (b : Bool) : AV := if (errP l (decide ((s.size : Int) > 256)) != 0) = true then .tup [.int .i64 0, .int .i64 (errP l (decide ((s.size : Int) > 256)))] else .tup [.int .i64 (posF (entsF l) s b), .int .i64 0]
theorem errP_zero {l : List Nd} {c : Bool} (h : (errP l c != 0) = false) : (chkF l).2 = 0 ∧ c = false := by
  have h : errP l c = 0 := by simpa using h
  unfold errP at h
  rw [first_zero] at h
  exact ⟨h _ (by simp), (cond_zero (by decide)).1 (h (cond c 18) (by simp))⟩
theorem run25 (hS : S27 S) (l : List Nd) (s : ByteArray) (b : Bool) (hl : l.length ≤ 1000) (hr : ∀ x ∈ l, (rsOf x).length ≤ 1000) : run T S 25 [.sl (l.map encN), .str s, .bool b] = some (posRes l s b) := by
  have h67 := run67 hS l hl hr
  have h53 := run53 (S := S) (decide ((s.size : Int) > 256)) 18
  have h51 := run51_2 (S := S) (chkF l).2 (cond (decide ((s.size : Int) > 256)) 18)
  have he : first [(chkF l).2, cond (decide ((s.size : Int) > 256)) 18] = errP l (decide ((s.size : Int) > 256)) := rfl
  rw [he] at h51
  unfold posRes
  cases hq : (errP l (decide ((s.size : Int) > 256)) != 0)
  · obtain ⟨g1, _⟩ := errP_zero hq
    have hg := chk_good g1
    have h62 := run62 (S := S) l hl hr
    have h68 := run68 (S := S) (entsF l) s b (by omega)
    (refine run_fn T25 ⟨rfl, by decide, by rfl⟩ ?_; rw [start25, body25, B25]; dsimp only [ov, oo, og])
    simp (config := {decide := true, contextual := true, maxSteps := 5000000}) only [h67, h53, h51, hq, h62, h68, entPure, np25, res25, ↓simPre, simPost, capt_pure, argV_ro, argV_le, expo_pure, refsL_pure, isL_pure, k0_pure, k1_pure, ren0_pure, ren1_pure, sT_pure, sO_pure, bxGo_pure, resGo_pure, inst_pure, inst_rows, inst_bx, resP_go, viewT_pure, outs_skip, fzV_pure, bxL_pure, bxOf_pure, rowsOf_pure, rows1_pure, name1_pure, nameB1_pure, simR, reduceCtorEq, ↓reduceIte, splice, Nat.reduceAdd, Nat.reduceLT, Nat.reduceLeDiff, Nat.reduceEqDiff, Nat.reduceSub, noPtr, isPtr, notAgg, notIo, AV.capt, distinct, covers, O.keys, O.wr, okPair, disj, List.replicate, startOk]
  · (refine run_fn T25 ⟨rfl, by decide, by rfl⟩ ?_; rw [start25, body25, B25]; dsimp only [ov, oo, og])
    simp (config := {decide := true, contextual := true, maxSteps := 5000000}) only [h67, h53, h51, hq, np25, res25, ↓simPre, simPost, capt_pure, argV_ro, argV_le, expo_pure, refsL_pure, isL_pure, k0_pure, k1_pure, ren0_pure, ren1_pure, sT_pure, sO_pure, bxGo_pure, resGo_pure, inst_pure, inst_rows, inst_bx, resP_go, viewT_pure, outs_skip, fzV_pure, bxL_pure, bxOf_pure, rowsOf_pure, rows1_pure, name1_pure, nameB1_pure, simR, reduceCtorEq, ↓reduceIte, splice, Nat.reduceAdd, Nat.reduceLT, Nat.reduceLeDiff, Nat.reduceEqDiff, Nat.reduceSub, noPtr, isPtr, notAgg, notIo, AV.capt, distinct, covers, O.keys, O.wr, okPair, disj, List.replicate, startOk]
def atRes (l : List Nd) (p : Int) : AV :=
  if ((chkF l).2 != 0) = true then .tup [.agg [.str (bs []), .int .i64 0], .int .i64 (chkF l).2]
  else if (decide (p < 0) || decide (p ≥ ((entsF l).length : Int))) = true then .tup [.agg [.str (bs []), .int .i64 0], .int .i64 3]
  else .tup [.agg (encE ((entsF l).getD p.toNat en0)), .int .i64 0]
theorem run28 (hS : S27 S) (l : List Nd) (p : Int) (hl : l.length ≤ 1000) (hr : ∀ x ∈ l, (rsOf x).length ≤ 1000) : run T S 28 [.sl (l.map encN), .int .i64 p] = some (atRes l p) := by
  have h67 := run67 hS l hl hr
  unfold atRes
  cases hq : ((chkF l).2 != 0)
  · have h62 := run62 (S := S) l hl hr
    cases h1 : decide (p < 0)
    · cases h2 : decide (p ≥ ((entsF l).length : Int))
      · have h1' : ¬ p < 0 := of_decide_eq_false h1
        have h2' : ¬ p ≥ ((entsF l).length : Int) := of_decide_eq_false h2
        obtain ⟨k, rfl⟩ := Int.eq_ofNat_of_zero_le (show 0 ≤ p by omega)
        have hk : k < (entsF l).length := by omega
        have e6 := enc_get encE (entsF l) k en0 hk
        have e11 := enc_get? encE (entsF l) k en0 hk
        have ek : ((k : Int)).toNat = k := Int.toNat_natCast k
        simp only [encE] at e6 e11
        (refine run_fn T28 ⟨rfl, by decide, by rfl⟩ ?_; rw [start28, body28, B28]; dsimp only [ov, oo, og])
        simp (config := {decide := true, contextual := true, maxSteps := 5000000}) only [h67, hq, h62, enc_len, h1, h2, castLt hk, e6, e11, ek, encE, np28, res28, ↓simPre, simPost, capt_pure, argV_ro, argV_le, expo_pure, refsL_pure, isL_pure, k0_pure, k1_pure, ren0_pure, ren1_pure, sT_pure, sO_pure, bxGo_pure, resGo_pure, inst_pure, inst_rows, inst_bx, resP_go, viewT_pure, outs_skip, fzV_pure, bxL_pure, bxOf_pure, rowsOf_pure, rows1_pure, name1_pure, nameB1_pure, simR, reduceCtorEq, ↓reduceIte, splice, Nat.reduceAdd, Nat.reduceLT, Nat.reduceLeDiff, Nat.reduceEqDiff, Nat.reduceSub, noPtr, isPtr, notAgg, notIo, AV.capt, distinct, covers, O.keys, O.wr, okPair, disj, List.replicate, startOk]
      · (refine run_fn T28 ⟨rfl, by decide, by rfl⟩ ?_; rw [start28, body28, B28]; dsimp only [ov, oo, og])
        simp (config := {decide := true, contextual := true, maxSteps := 5000000}) only [h67, hq, h62, enc_len, h1, h2, np28, res28, ↓simPre, simPost, capt_pure, argV_ro, argV_le, expo_pure, refsL_pure, isL_pure, k0_pure, k1_pure, ren0_pure, ren1_pure, sT_pure, sO_pure, bxGo_pure, resGo_pure, inst_pure, inst_rows, inst_bx, resP_go, viewT_pure, outs_skip, fzV_pure, bxL_pure, bxOf_pure, rowsOf_pure, rows1_pure, name1_pure, nameB1_pure, simR, reduceCtorEq, ↓reduceIte, splice, Nat.reduceAdd, Nat.reduceLT, Nat.reduceLeDiff, Nat.reduceEqDiff, Nat.reduceSub, noPtr, isPtr, notAgg, notIo, AV.capt, distinct, covers, O.keys, O.wr, okPair, disj, List.replicate, startOk]
    · (refine run_fn T28 ⟨rfl, by decide, by rfl⟩ ?_; rw [start28, body28, B28]; dsimp only [ov, oo, og])
      simp (config := {decide := true, contextual := true, maxSteps := 5000000}) only [h67, hq, h62, enc_len, h1, np28, res28, ↓simPre, simPost, capt_pure, argV_ro, argV_le, expo_pure, refsL_pure, isL_pure, k0_pure, k1_pure, ren0_pure, ren1_pure, sT_pure, sO_pure, bxGo_pure, resGo_pure, inst_pure, inst_rows, inst_bx, resP_go, viewT_pure, outs_skip, fzV_pure, bxL_pure, bxOf_pure, rowsOf_pure, rows1_pure, name1_pure, nameB1_pure, simR, reduceCtorEq, ↓reduceIte, splice, Nat.reduceAdd, Nat.reduceLT, Nat.reduceLeDiff, Nat.reduceEqDiff, Nat.reduceSub, noPtr, isPtr, notAgg, notIo, AV.capt, distinct, covers, O.keys, O.wr, okPair, disj, List.replicate, startOk]
  · (refine run_fn T28 ⟨rfl, by decide, by rfl⟩ ?_; rw [start28, body28, B28]; dsimp only [ov, oo, og])
    simp (config := {decide := true, contextual := true, maxSteps := 5000000}) only [h67, hq, np28, res28, ↓simPre, simPost, capt_pure, argV_ro, argV_le, expo_pure, refsL_pure, isL_pure, k0_pure, k1_pure, ren0_pure, ren1_pure, sT_pure, sO_pure, bxGo_pure, resGo_pure, inst_pure, inst_rows, inst_bx, resP_go, viewT_pure, outs_skip, fzV_pure, bxL_pure, bxOf_pure, rowsOf_pure, rows1_pure, name1_pure, nameB1_pure, simR, reduceCtorEq, ↓reduceIte, splice, Nat.reduceAdd, Nat.reduceLT, Nat.reduceLeDiff, Nat.reduceEqDiff, Nat.reduceSub, noPtr, isPtr, notAgg, notIo, AV.capt, distinct, covers, O.keys, O.wr, okPair, disj, List.replicate, startOk]
theorem run27 (l : List Nd) (hl : l.length ≤ 1000) (hr : ∀ x ∈ l, (rsOf x).length ≤ 1000) : run T S 27 [.sl (l.map encN)] = some (.row 47 2 ((entsF l).map encE)) := by
  have h66 := run66 (S := S) l hl hr
  (refine run_fn T27 ⟨rfl, by decide, by rfl⟩ ?_; rw [start27, body27, B27]; dsimp only [ov, oo, og])
  simp (config := {decide := true, contextual := true, maxSteps := 5000000}) only [h66, np27, res27, ↓simPre, simPost, capt_pure, argV_ro, argV_le, expo_pure, refsL_pure, isL_pure, k0_pure, k1_pure, ren0_pure, ren1_pure, sT_pure, sO_pure, bxGo_pure, resGo_pure, inst_pure, inst_rows, inst_bx, resP_go, viewT_pure, outs_skip, fzV_pure, bxL_pure, bxOf_pure, rowsOf_pure, rows1_pure, name1_pure, nameB1_pure, simR, reduceCtorEq, ↓reduceIte, splice, Nat.reduceAdd, Nat.reduceLT, Nat.reduceLeDiff, Nat.reduceEqDiff, Nat.reduceSub, noPtr, isPtr, notAgg, notIo, AV.capt, distinct, covers, O.keys, O.wr, okPair, disj, List.replicate, startOk]
end Go.Nv
/- BY VALUE: chapter 27, places (3): ranges. -/
namespace Go.Nv
variable {S : RT}
attribute [local congr] ite_congr congr_bindOps congr_bindC congr_bindD congr_onE congr_onA congr_onBool congr_onEff congr_headC congr_ob congr_ob2 congr_onI congr_onS congr_onAg congr_onTu congr_onRow congr_obO congr_takeR congr_ldV congr_ldN congr_iaV congr_onMap congr_stP congr_appA congr_frzR congr_onFn congr_fzV congr_callM congr_callN congr_onIo congr_giveR congr_rowS congr_bxS congr_bxC congr_rnR congr_rnP congr_onFin
set_option maxRecDepth 100000
set_option maxHeartbeats 40000000
def eqL : List En → List En → Bool
  | [], [] => true
  | a :: l, b :: m => eqE a b && eqL l m
  | _, _ => false
theorem eqL_refl : ∀ l : List En, eqL l l = true
  | [] => rfl
  | x :: l => by simp [eqL, eqE, eqL_refl l]
theorem run31 (a b : List En) (ha : a.length ≤ 100000) : run T S 31 [.sl (a.map encE), .sl (b.map encE)] = some (.bool (a.length == b.length && eqL a b)) := by
  by_cases h : a.length = b.length
  · have h' : (a.length == b.length) = true := by simpa using h
    (refine run_fn T31 ⟨rfl, by decide, by rfl⟩ ?_; rw [start31, body31, B31]; dsimp only [ov, oo, og])
    simp (config := {decide := true, contextual := true, maxSteps := 5000000}) only [enc_len, h, bne_self_eq_false, beq_self_eq_true, np31, res31, ↓simPre, simPost, capt_pure, argV_ro, argV_le, expo_pure, refsL_pure, isL_pure, k0_pure, k1_pure, ren0_pure, ren1_pure, sT_pure, sO_pure, bxGo_pure, resGo_pure, inst_pure, inst_rows, inst_bx, resP_go, viewT_pure, outs_skip, fzV_pure, bxL_pure, bxOf_pure, rowsOf_pure, rows1_pure, name1_pure, nameB1_pure, simR, reduceCtorEq, ↓reduceIte, splice, Nat.reduceAdd, Nat.reduceLT, Nat.reduceLeDiff, Nat.reduceEqDiff, Nat.reduceSub, noPtr, isPtr, notAgg, notIo, AV.capt, distinct, covers, O.keys, O.wr, okPair, disj, List.replicate, startOk]
    refine headC_range a.length (fun i e => e.put (some 5) (.int .i64 i)) (fun i => some (AV.bool (eqL (a.drop i) (b.drop i)))) rfl ?_ ?_
    · have hy : eqL (a.drop b.length) (b.drop b.length) = true := by rw [← h, List.drop_length, h, List.drop_length]; rfl
      simp (config := {decide := true, contextual := true, maxSteps := 5000000}) only [enc_len, h, castNlt (Nat.lt_irrefl _), hy, np31, res31, ↓simPre, simPost, capt_pure, argV_ro, argV_le, expo_pure, refsL_pure, isL_pure, k0_pure, k1_pure, ren0_pure, ren1_pure, sT_pure, sO_pure, bxGo_pure, resGo_pure, inst_pure, inst_rows, inst_bx, resP_go, viewT_pure, outs_skip, fzV_pure, bxL_pure, bxOf_pure, rowsOf_pure, rows1_pure, name1_pure, nameB1_pure, simR, reduceCtorEq, ↓reduceIte, splice, Nat.reduceAdd, Nat.reduceLT, Nat.reduceLeDiff, Nat.reduceEqDiff, Nat.reduceSub, noPtr, isPtr, notAgg, notIo, AV.capt, distinct, covers, O.keys, O.wr, okPair, disj, List.replicate, startOk]
    · intro i hlt ih
      have hb : i < b.length := by omega
      rw [drop_cons en0 hlt, drop_cons en0 hb]
      have e1 := enc_get encE a i en0 hlt
      have e2 := enc_get encE b i en0 hb
      generalize a.getD i en0 = x at *
      generalize b.getD i en0 = y at *
      simp only [encE] at e1 e2
      cases h9 : eqE x y
      · have h8 : (x.k.toList == y.k.toList && x.r == y.r) = false := h9
        simp (config := {decide := true, contextual := true, maxSteps := 5000000}) only [enc_len, castLt hlt, castLt hb, e1, e2, h8, h9, wrap_succ hlt (by omega), eqL, np31, res31, ↓simPre, simPost, capt_pure, argV_ro, argV_le, expo_pure, refsL_pure, isL_pure, k0_pure, k1_pure, ren0_pure, ren1_pure, sT_pure, sO_pure, bxGo_pure, resGo_pure, inst_pure, inst_rows, inst_bx, resP_go, viewT_pure, outs_skip, fzV_pure, bxL_pure, bxOf_pure, rowsOf_pure, rows1_pure, name1_pure, nameB1_pure, simR, reduceCtorEq, ↓reduceIte, splice, Nat.reduceAdd, Nat.reduceLT, Nat.reduceLeDiff, Nat.reduceEqDiff, Nat.reduceSub, noPtr, isPtr, notAgg, notIo, AV.capt, distinct, covers, O.keys, O.wr, okPair, disj, List.replicate, startOk]
      · have h8 : (x.k.toList == y.k.toList && x.r == y.r) = true := h9
        simp (config := {decide := true, contextual := true, maxSteps := 5000000}) only [enc_len, castLt hlt, castLt hb, e1, e2, h8, h9, wrap_succ hlt (by omega), eqL, np31, res31, ↓simPre, simPost, capt_pure, argV_ro, argV_le, expo_pure, refsL_pure, isL_pure, k0_pure, k1_pure, ren0_pure, ren1_pure, sT_pure, sO_pure, bxGo_pure, resGo_pure, inst_pure, inst_rows, inst_bx, resP_go, viewT_pure, outs_skip, fzV_pure, bxL_pure, bxOf_pure, rowsOf_pure, rows1_pure, name1_pure, nameB1_pure, simR, reduceCtorEq, ↓reduceIte, splice, Nat.reduceAdd, Nat.reduceLT, Nat.reduceLeDiff, Nat.reduceEqDiff, Nat.reduceSub, noPtr, isPtr, notAgg, notIo, AV.capt, distinct, covers, O.keys, O.wr, okPair, disj, List.replicate, startOk]
        exact ih
  · have h' : ((a.length : Int) != (b.length : Int)) = true := by simpa [bne_iff_ne] using (fun hh => h (by omega))
    have h2 : (a.length == b.length) = false := beq_eq_false_iff_ne.2 h
    rw [h2]
    (refine run_fn T31 ⟨rfl, by decide, by rfl⟩ ?_; rw [start31, body31, B31]; dsimp only [ov, oo, og])
    simp (config := {decide := true, contextual := true, maxSteps := 5000000}) only [enc_len, h', np31, res31, ↓simPre, simPost, capt_pure, argV_ro, argV_le, expo_pure, refsL_pure, isL_pure, k0_pure, k1_pure, ren0_pure, ren1_pure, sT_pure, sO_pure, bxGo_pure, resGo_pure, inst_pure, inst_rows, inst_bx, resP_go, viewT_pure, outs_skip, fzV_pure, bxL_pure, bxOf_pure, rowsOf_pure, rows1_pure, name1_pure, nameB1_pure, simR, reduceCtorEq, ↓reduceIte, splice, Nat.reduceAdd, Nat.reduceLT, Nat.reduceLeDiff, Nat.reduceEqDiff, Nat.reduceSub, noPtr, isPtr, notAgg, notIo, AV.capt, distinct, covers, O.keys, O.wr, okPair, disj, List.replicate, startOk]
def betP (a b : ByteArray) (x : En) : Bool := !ltK x.k a && (ltK x.k b || pfx x.k b)
theorem run32 (l : List En) (a b : ByteArray) (hl : l.length ≤ 100000) : run T S 32 [.sl (l.map encE), .str a, .str b] = some (.row 47 2 ((l.filter (betP a b)).map encE)) := by
  (refine run_fn T32 ⟨rfl, by decide, by rfl⟩ ?_; rw [start32, body32, B32]; dsimp only [ov, oo, og])
  simp (config := {decide := true, contextual := true, maxSteps := 5000000}) only [enc_len, np32, res32, ↓simPre, simPost, capt_pure, argV_ro, argV_le, expo_pure, refsL_pure, isL_pure, k0_pure, k1_pure, ren0_pure, ren1_pure, sT_pure, sO_pure, bxGo_pure, resGo_pure, inst_pure, inst_rows, inst_bx, resP_go, viewT_pure, outs_skip, fzV_pure, bxL_pure, bxOf_pure, rowsOf_pure, rows1_pure, name1_pure, nameB1_pure, simR, reduceCtorEq, ↓reduceIte, splice, Nat.reduceAdd, Nat.reduceLT, Nat.reduceLeDiff, Nat.reduceEqDiff, Nat.reduceSub, noPtr, isPtr, notAgg, notIo, AV.capt, distinct, covers, O.keys, O.wr, okPair, disj, List.replicate, startOk]
  refine headC_range l.length (fun i e => (e.put (some 8) (.int .i64 i)).setObj 7 ⟨0, [[]], .val [.row 47 2 (((l.take i).filter (betP a b)).map encE)]⟩) (fun _ => some (AV.row 47 2 ((l.filter (betP a b)).map encE))) rfl ?_ ?_
  · simp (config := {decide := true, contextual := true, maxSteps := 5000000}) only [enc_len, castNlt (Nat.lt_irrefl _), List.take_length, np32, res32, ↓simPre, simPost, capt_pure, argV_ro, argV_le, expo_pure, refsL_pure, isL_pure, k0_pure, k1_pure, ren0_pure, ren1_pure, sT_pure, sO_pure, bxGo_pure, resGo_pure, inst_pure, inst_rows, inst_bx, resP_go, viewT_pure, outs_skip, fzV_pure, bxL_pure, bxOf_pure, rowsOf_pure, rows1_pure, name1_pure, nameB1_pure, simR, reduceCtorEq, ↓reduceIte, splice, Nat.reduceAdd, Nat.reduceLT, Nat.reduceLeDiff, Nat.reduceEqDiff, Nat.reduceSub, noPtr, isPtr, notAgg, notIo, AV.capt, distinct, covers, O.keys, O.wr, okPair, disj, List.replicate, startOk]
  · intro i hlt ih
    have h9 := enc_get encE l i en0 hlt
    have hs : (l.take (i + 1)).filter (betP a b) = (l.take i).filter (betP a b) ++ (if betP a b (l.getD i en0) = true then [l.getD i en0] else []) := by
      rw [take_succ en0 hlt, List.filter_append, List.filter_cons, List.filter_nil]
    have hle : ((l.take i).filter (betP a b)).length ≤ i := Nat.le_trans (List.length_filter_le _ _) (by rw [List.length_take]; omega)
    rw [hs] at ih
    generalize (l.take i).filter (betP a b) = out at *
    generalize l.getD i en0 = x at *
    have h69 := run69 (S := S) x.k b
    have ha : ((out.length + 1) * 24 ≤ 140737488355328) = True := eq_true (by omega)
    have h5 : out.map encE ++ [[.str x.k, .int .i64 x.r]] = (out ++ [x]).map encE := by simp [encE]
    simp only [encE] at h9
    cases q1 : ltK x.k a
    · cases q2 : ltK x.k b
      · cases q3 : pfx x.k b
        · have hp : betP a b x = false := by unfold betP; rw [q1, q2, q3]; rfl
          rw [hp, if_neg (by decide), List.append_nil] at ih
          simp only [ltK] at q1 q2
          simp (config := {decide := true, contextual := true, maxSteps := 5000000}) only [enc_len, castLt hlt, h9, q1, q2, h69, q3, wrap_succ hlt (by omega), np32, res32, ↓simPre, simPost, capt_pure, argV_ro, argV_le, expo_pure, refsL_pure, isL_pure, k0_pure, k1_pure, ren0_pure, ren1_pure, sT_pure, sO_pure, bxGo_pure, resGo_pure, inst_pure, inst_rows, inst_bx, resP_go, viewT_pure, outs_skip, fzV_pure, bxL_pure, bxOf_pure, rowsOf_pure, rows1_pure, name1_pure, nameB1_pure, simR, reduceCtorEq, ↓reduceIte, splice, Nat.reduceAdd, Nat.reduceLT, Nat.reduceLeDiff, Nat.reduceEqDiff, Nat.reduceSub, noPtr, isPtr, notAgg, notIo, AV.capt, distinct, covers, O.keys, O.wr, okPair, disj, List.replicate, startOk]
          exact ih
        · have hp : betP a b x = true := by unfold betP; rw [q1, q2, q3]; rfl
          rw [hp, if_pos rfl] at ih
          simp only [ltK] at q1 q2
          simp (config := {decide := true, contextual := true, maxSteps := 5000000}) only [enc_len, castLt hlt, h9, q1, q2, h69, q3, ha, h5, wrap_succ hlt (by omega), np32, res32, ↓simPre, simPost, capt_pure, argV_ro, argV_le, expo_pure, refsL_pure, isL_pure, k0_pure, k1_pure, ren0_pure, ren1_pure, sT_pure, sO_pure, bxGo_pure, resGo_pure, inst_pure, inst_rows, inst_bx, resP_go, viewT_pure, outs_skip, fzV_pure, bxL_pure, bxOf_pure, rowsOf_pure, rows1_pure, name1_pure, nameB1_pure, simR, reduceCtorEq, ↓reduceIte, splice, Nat.reduceAdd, Nat.reduceLT, Nat.reduceLeDiff, Nat.reduceEqDiff, Nat.reduceSub, noPtr, isPtr, notAgg, notIo, AV.capt, distinct, covers, O.keys, O.wr, okPair, disj, List.replicate, startOk]
          exact ih
      · have hp : betP a b x = true := by unfold betP; rw [q1, q2]; rfl
        rw [hp, if_pos rfl] at ih
        simp only [ltK] at q1 q2
        simp (config := {decide := true, contextual := true, maxSteps := 5000000}) only [enc_len, castLt hlt, h9, q1, q2, ha, h5, wrap_succ hlt (by omega), np32, res32, ↓simPre, simPost, capt_pure, argV_ro, argV_le, expo_pure, refsL_pure, isL_pure, k0_pure, k1_pure, ren0_pure, ren1_pure, sT_pure, sO_pure, bxGo_pure, resGo_pure, inst_pure, inst_rows, inst_bx, resP_go, viewT_pure, outs_skip, fzV_pure, bxL_pure, bxOf_pure, rowsOf_pure, rows1_pure, name1_pure, nameB1_pure, simR, reduceCtorEq, ↓reduceIte, splice, Nat.reduceAdd, Nat.reduceLT, Nat.reduceLeDiff, Nat.reduceEqDiff, Nat.reduceSub, noPtr, isPtr, notAgg, notIo, AV.capt, distinct, covers, O.keys, O.wr, okPair, disj, List.replicate, startOk]
        exact ih
    · have hp : betP a b x = false := by unfold betP; rw [q1]; rfl
      rw [hp, if_neg (by decide), List.append_nil] at ih
      simp only [ltK] at q1
      simp (config := {decide := true, contextual := true, maxSteps := 5000000}) only [enc_len, castLt hlt, h9, q1, wrap_succ hlt (by omega), np32, res32, ↓simPre, simPost, capt_pure, argV_ro, argV_le, expo_pure, refsL_pure, isL_pure, k0_pure, k1_pure, ren0_pure, ren1_pure, sT_pure, sO_pure, bxGo_pure, resGo_pure, inst_pure, inst_rows, inst_bx, resP_go, viewT_pure, outs_skip, fzV_pure, bxL_pure, bxOf_pure, rowsOf_pure, rows1_pure, name1_pure, nameB1_pure, simR, reduceCtorEq, ↓reduceIte, splice, Nat.reduceAdd, Nat.reduceLT, Nat.reduceLeDiff, Nat.reduceEqDiff, Nat.reduceSub, noPtr, isPtr, notAgg, notIo, AV.capt, distinct, covers, O.keys, O.wr, okPair, disj, List.replicate, startOk]
      exact ih
end Go.Nv
/- BY VALUE: chapter 27, places (4): between. -/
namespace Go.Nv
variable {S : RT}
attribute [local congr] ite_congr congr_bindOps congr_bindC congr_bindD congr_onE congr_onA congr_onBool congr_onEff congr_headC congr_ob congr_ob2 congr_onI congr_onS congr_onAg congr_onTu congr_onRow congr_obO congr_takeR congr_ldV congr_ldN congr_iaV congr_onMap congr_stP congr_appA congr_frzR congr_onFn congr_fzV congr_callM congr_callN congr_onIo congr_giveR congr_rowS congr_bxS congr_bxC congr_rnR congr_rnP congr_onFin
set_option maxRecDepth 100000
set_option maxHeartbeats 40000000
def betErr (l : List Nd) (a b : ByteArray) : Int := errP l (decide ((a.size : Int) > 256) || decide ((b.size : Int) > 256))
def betL (l : List Nd) (a b : ByteArray) : List En := ((entsF l).take (posF (entsF l) b true)).drop (posF (entsF l) a false)
def betRes (l : List Nd) (a b : ByteArray) : AV :=
  if (betErr l a b != 0) = true then .tup [.row 47 2 [], .int .i64 (betErr l a b)]
  else if posF (entsF l) b true ≤ posF (entsF l) a false then .tup [.row 47 2 [], .int .i64 0]
  else .tup [.sl ((betL l a b).map encE), .int .i64 0]
theorem run30 (hS : S27 S) (l : List Nd) (a b : ByteArray) (hl : l.length ≤ 1000) (hr : ∀ x ∈ l, (rsOf x).length ≤ 1000) :
    run T S 30 [.sl (l.map encN), .str a, .str b] = some (betRes l a b) := by
  unfold betRes
  have h67 := run67 hS l hl hr
  have h53 := fun c => run53 (S := S) c 18
  have h51 := fun c => run51_2 (S := S) (chkF l).2 (cond c 18)
  have he : ∀ c, first [(chkF l).2, cond c 18] = errP l c := fun c => rfl
  simp only [he] at h51
  have h62 := run62 (S := S) l hl hr
  cases q1 : decide ((a.size : Int) > 256)
  · have e1 : betErr l a b = errP l (decide ((b.size : Int) > 256)) := by unfold betErr; rw [q1]; rfl
    rw [e1]
    generalize hc : decide ((b.size : Int) > 256) = c at *
    cases hq : (errP l c != 0)
    · obtain ⟨g1, _⟩ := errP_zero hq
      have hz : errP l c = 0 := by simpa using hq
      have hg := chk_good g1
      have h68 := fun s b => run68 (S := S) (entsF l) s b (by omega)
      simp only [Bool.false_eq_true, if_false]
      by_cases hab : posF (entsF l) b true ≤ posF (entsF l) a false
      · have z1 : decide ((posF (entsF l) b true : Int) ≤ (posF (entsF l) a false : Int)) = true := decide_eq_true (by omega)
        rw [if_pos hab]
        (refine run_fn T30 ⟨rfl, by decide, by rfl⟩ ?_; rw [start30, body30, B30]; dsimp only [ov, oo, og])
        simp (config := {decide := true, contextual := true, maxSteps := 5000000}) only [h67, h53, h51, hq, h62, h68, entPure, q1, hc, z1, hz, np30, res30, ↓simPre, simPost, capt_pure, argV_ro, argV_le, expo_pure, refsL_pure, isL_pure, k0_pure, k1_pure, ren0_pure, ren1_pure, sT_pure, sO_pure, bxGo_pure, resGo_pure, inst_pure, inst_rows, inst_bx, resP_go, viewT_pure, outs_skip, fzV_pure, bxL_pure, bxOf_pure, rowsOf_pure, rows1_pure, name1_pure, nameB1_pure, simR, reduceCtorEq, ↓reduceIte, splice, Nat.reduceAdd, Nat.reduceLT, Nat.reduceLeDiff, Nat.reduceEqDiff, Nat.reduceSub, noPtr, isPtr, notAgg, notIo, AV.capt, distinct, covers, O.keys, O.wr, okPair, disj, List.replicate, startOk]
      · have z1 : decide ((posF (entsF l) b true : Int) ≤ (posF (entsF l) a false : Int)) = false := decide_eq_false (by omega)
        have g1 := posF_le (entsF l) b true
        have hL : ((entsF l).map encE).take (posF (entsF l) b true) = ((entsF l).take (posF (entsF l) b true)).map encE := List.map_take.symm
        have hD : (((entsF l).take (posF (entsF l) b true)).map encE).drop (posF (entsF l) a false) = (betL l a b).map encE := List.map_drop.symm
        rw [if_neg hab]
        (refine run_fn T30 ⟨rfl, by decide, by rfl⟩ ?_; rw [start30, body30, B30]; dsimp only [ov, oo, og])
        have z3 : ((posF (entsF l) a false : Int) ≤ (posF (entsF l) b true : Int)) = True := eq_true (by omega)
        have z4 : ((posF (entsF l) b true : Int) ≤ ((entsF l).length : Int)) = True := eq_true (by omega)
        simp (config := {decide := true, contextual := true, maxSteps := 5000000}) only [h67, h53, h51, hq, h62, h68, entPure, entLens, q1, hc, z1, z3, z4, hz, enc_len, hL, hD, np30, res30, ↓simPre, simPost, capt_pure, argV_ro, argV_le, expo_pure, refsL_pure, isL_pure, k0_pure, k1_pure, ren0_pure, ren1_pure, sT_pure, sO_pure, bxGo_pure, resGo_pure, inst_pure, inst_rows, inst_bx, resP_go, viewT_pure, outs_skip, fzV_pure, bxL_pure, bxOf_pure, rowsOf_pure, rows1_pure, name1_pure, nameB1_pure, simR, reduceCtorEq, ↓reduceIte, splice, Nat.reduceAdd, Nat.reduceLT, Nat.reduceLeDiff, Nat.reduceEqDiff, Nat.reduceSub, noPtr, isPtr, notAgg, notIo, AV.capt, distinct, covers, O.keys, O.wr, okPair, disj, List.replicate, startOk]
    · simp only [if_true]
      (refine run_fn T30 ⟨rfl, by decide, by rfl⟩ ?_; rw [start30, body30, B30]; dsimp only [ov, oo, og])
      simp (config := {decide := true, contextual := true, maxSteps := 5000000}) only [h67, h53, h51, hq, q1, hc, np30, res30, ↓simPre, simPost, capt_pure, argV_ro, argV_le, expo_pure, refsL_pure, isL_pure, k0_pure, k1_pure, ren0_pure, ren1_pure, sT_pure, sO_pure, bxGo_pure, resGo_pure, inst_pure, inst_rows, inst_bx, resP_go, viewT_pure, outs_skip, fzV_pure, bxL_pure, bxOf_pure, rowsOf_pure, rows1_pure, name1_pure, nameB1_pure, simR, reduceCtorEq, ↓reduceIte, splice, Nat.reduceAdd, Nat.reduceLT, Nat.reduceLeDiff, Nat.reduceEqDiff, Nat.reduceSub, noPtr, isPtr, notAgg, notIo, AV.capt, distinct, covers, O.keys, O.wr, okPair, disj, List.replicate, startOk]
  · have e1 : betErr l a b = errP l true := by unfold betErr; rw [q1]; rfl
    rw [e1]
    have hq : (errP l true != 0) = true := by
      cases hq : (errP l true != 0)
      · exact absurd (errP_zero hq).2 (by decide)
      · rfl
    rw [hq]
    simp only [if_true]
    (refine run_fn T30 ⟨rfl, by decide, by rfl⟩ ?_; rw [start30, body30, B30]; dsimp only [ov, oo, og])
    simp (config := {decide := true, contextual := true, maxSteps := 5000000}) only [h67, h53, h51, hq, q1, np30, res30, ↓simPre, simPost, capt_pure, argV_ro, argV_le, expo_pure, refsL_pure, isL_pure, k0_pure, k1_pure, ren0_pure, ren1_pure, sT_pure, sO_pure, bxGo_pure, resGo_pure, inst_pure, inst_rows, inst_bx, resP_go, viewT_pure, outs_skip, fzV_pure, bxL_pure, bxOf_pure, rowsOf_pure, rows1_pure, name1_pure, nameB1_pure, simR, reduceCtorEq, ↓reduceIte, splice, Nat.reduceAdd, Nat.reduceLT, Nat.reduceLeDiff, Nat.reduceEqDiff, Nat.reduceSub, noPtr, isPtr, notAgg, notIo, AV.capt, distinct, covers, O.keys, O.wr, okPair, disj, List.replicate, startOk]
end Go.Nv
/- BY VALUE: chapter 27, a law: ranges. -/
namespace Go.Nv
variable {S : RT}
attribute [local congr] ite_congr congr_bindOps congr_bindC congr_bindD congr_onE congr_onA congr_onBool congr_onEff congr_headC congr_ob congr_ob2 congr_onI congr_onS congr_onAg congr_onTu congr_onRow congr_obO congr_takeR congr_ldV congr_ldN congr_iaV congr_onMap congr_stP congr_appA congr_frzR congr_onFn congr_fzV congr_callM congr_callN congr_onIo congr_giveR congr_rowS congr_bxS congr_bxC congr_rnR congr_rnP congr_onFin
set_option maxRecDepth 100000
set_option maxHeartbeats 40000000
theorem betErr_zero {l : List Nd} {a b : ByteArray} (h : (betErr l a b != 0) = false) : (chkF l).2 = 0 ∧ decide ((a.size : Int) > 256) = false ∧ decide ((b.size : Int) > 256) = false := by
  obtain ⟨h1, h2⟩ := errP_zero h
  rw [Bool.or_eq_false_iff] at h2
  exact ⟨h1, h2.1, h2.2⟩
theorem posRes_ok {l : List Nd} {s : ByteArray} (b : Bool) (h : (chkF l).2 = 0) (hs : decide ((s.size : Int) > 256) = false) : posRes l s b = .tup [.int .i64 (posF (entsF l) s b), .int .i64 0] := by
  have : errP l (decide ((s.size : Int) > 256)) = 0 := by unfold errP; rw [h, hs]; rfl
  unfold posRes
  rw [this, if_neg (by decide)]
theorem run6 (hS : S27 S) (l : List Nd) (a b : ByteArray) : run T S 6 [.sl (l.map encN), .str a, .str b] = some (.bool true) := by
  have k12 := run12 hS
  have k19 := run19 (S := S) l
  cases hf : fewT l
  · (refine run_fn T6 ⟨rfl, by decide, by rfl⟩ ?_; rw [start6, body6, B6]; dsimp only [ov, oo, og])
    simp (config := {decide := true, contextual := true, maxSteps := 5000000}) only [k12, k19, hf, np6, res6, ↓simPre, simPost, capt_pure, argV_ro, argV_le, expo_pure, refsL_pure, isL_pure, k0_pure, k1_pure, ren0_pure, ren1_pure, sT_pure, sO_pure, bxGo_pure, resGo_pure, inst_pure, inst_rows, inst_bx, resP_go, viewT_pure, outs_skip, fzV_pure, bxL_pure, bxOf_pure, rowsOf_pure, rows1_pure, name1_pure, nameB1_pure, simR, reduceCtorEq, ↓reduceIte, splice, Nat.reduceAdd, Nat.reduceLT, Nat.reduceLeDiff, Nat.reduceEqDiff, Nat.reduceSub, noPtr, isPtr, notAgg, notIo, AV.capt, distinct, covers, O.keys, O.wr, okPair, disj, List.replicate, startOk]
  cases hg1 : decide ((a.size : Int) > 300)
  · cases hg2 : decide ((b.size : Int) > 300)
    · obtain ⟨b1, b2⟩ := few_bounds hf
      have hl : l.length ≤ 1000 := by omega
      have hr : ∀ x ∈ l, (rsOf x).length ≤ 1000 := fun x hx => by have := (b2 x hx).2; omega
      have k21 := run21 (S := S) l hl hr
      have vo := viewT_own l
      have k30 := run30 hS l a b hl hr
      unfold betRes at k30
      cases hq : (betErr l a b != 0)
      · obtain ⟨g1, g2, g3⟩ := betErr_zero hq
        have hz : betErr l a b = 0 := by simpa using hq
        have hg := chk_good g1
        have k25 := run25 hS l a false hl hr
        have k25' := run25 hS l b true hl hr
        rw [posRes_ok false g1 g2] at k25
        rw [posRes_ok true g1 g3] at k25'
        rw [hq, if_neg (by decide)] at k30
        have p1 := posF_le (entsF l) a false
        have p2 := posF_le (entsF l) b true
        by_cases hab : posF (entsF l) b true ≤ posF (entsF l) a false
        · rw [if_pos hab] at k30
          have w1 : IntKind.wrap .i64 ((posF (entsF l) b true : Int) - (posF (entsF l) a false : Int)) = (posF (entsF l) b true : Int) - (posF (entsF l) a false : Int) := wrap_i64 (by omega) (by omega)
          have hm : ((posF (entsF l) b true : Int) - (posF (entsF l) a false : Int) > 0) = False := eq_false (by omega)
          cases hfl : flats ((ownF l).map encR) <;> (
            (refine run_fn T6 ⟨rfl, by decide, by rfl⟩ ?_; rw [start6, body6, B6]; dsimp only [ov, oo, og])
            simp (config := {decide := true, contextual := true, maxSteps := 5000000}) only [k12, k19, hf, hg1, hg2, k21, vo, k30, k25, k25', hfl, w1, hm, np6, res6, ↓simPre, simPost, capt_pure, argV_ro, argV_le, expo_pure, refsL_pure, isL_pure, k0_pure, k1_pure, ren0_pure, ren1_pure, sT_pure, sO_pure, bxGo_pure, resGo_pure, inst_pure, inst_rows, inst_bx, resP_go, viewT_pure, outs_skip, fzV_pure, bxL_pure, bxOf_pure, rowsOf_pure, rows1_pure, name1_pure, nameB1_pure, simR, reduceCtorEq, ↓reduceIte, splice, Nat.reduceAdd, Nat.reduceLT, Nat.reduceLeDiff, Nat.reduceEqDiff, Nat.reduceSub, noPtr, isPtr, notAgg, notIo, AV.capt, distinct, covers, O.keys, O.wr, okPair, disj, List.replicate, startOk]
            refine headC_range 0 (fun i e => e.put (some 13) (.int .i64 i)) (fun _ => some (AV.bool true)) rfl ?_ (fun i hi => by omega)
            simp (config := {decide := true, contextual := true, maxSteps := 5000000}) only [np6, res6, ↓simPre, simPost, capt_pure, argV_ro, argV_le, expo_pure, refsL_pure, isL_pure, k0_pure, k1_pure, ren0_pure, ren1_pure, sT_pure, sO_pure, bxGo_pure, resGo_pure, inst_pure, inst_rows, inst_bx, resP_go, viewT_pure, outs_skip, fzV_pure, bxL_pure, bxOf_pure, rowsOf_pure, rows1_pure, name1_pure, nameB1_pure, simR, reduceCtorEq, ↓reduceIte, splice, Nat.reduceAdd, Nat.reduceLT, Nat.reduceLeDiff, Nat.reduceEqDiff, Nat.reduceSub, noPtr, isPtr, notAgg, notIo, AV.capt, distinct, covers, O.keys, O.wr, okPair, disj, List.replicate, startOk])
        · rw [if_neg hab] at k30
          have w1 : IntKind.wrap .i64 ((posF (entsF l) b true : Int) - (posF (entsF l) a false : Int)) = (posF (entsF l) b true : Int) - (posF (entsF l) a false : Int) := wrap_i64 (by omega) (by omega)
          have hm : ((posF (entsF l) b true : Int) - (posF (entsF l) a false : Int) > 0) = True := eq_true (by omega)
          have hbl : (betL l a b).length = posF (entsF l) b true - posF (entsF l) a false := by unfold betL; rw [List.length_drop, List.length_take]; omega
          have hb2 : (((betL l a b).length : Int) != (posF (entsF l) b true : Int) - (posF (entsF l) a false : Int)) = false := by rw [hbl]; simp; omega
          have hat : ∀ i, i < (betL l a b).length → (betL l a b).getD i en0 = (entsF l).getD (posF (entsF l) a false + i) en0 := fun i hi => by
            unfold betL
            simp only [List.getD_eq_getElem?_getD, List.getElem?_drop, List.getElem?_take]
            rw [if_pos (by omega)]
          generalize betL l a b = L at *
          cases hfl : flats ((ownF l).map encR) <;> (
            (refine run_fn T6 ⟨rfl, by decide, by rfl⟩ ?_; rw [start6, body6, B6]; dsimp only [ov, oo, og])
            simp (config := {decide := true, contextual := true, maxSteps := 5000000}) only [k12, k19, hf, hg1, hg2, k21, vo, k30, k25, k25', hfl, w1, hm, hb2, enc_len, np6, res6, ↓simPre, simPost, capt_pure, argV_ro, argV_le, expo_pure, refsL_pure, isL_pure, k0_pure, k1_pure, ren0_pure, ren1_pure, sT_pure, sO_pure, bxGo_pure, resGo_pure, inst_pure, inst_rows, inst_bx, resP_go, viewT_pure, outs_skip, fzV_pure, bxL_pure, bxOf_pure, rowsOf_pure, rows1_pure, name1_pure, nameB1_pure, simR, reduceCtorEq, ↓reduceIte, splice, Nat.reduceAdd, Nat.reduceLT, Nat.reduceLeDiff, Nat.reduceEqDiff, Nat.reduceSub, noPtr, isPtr, notAgg, notIo, AV.capt, distinct, covers, O.keys, O.wr, okPair, disj, List.replicate, startOk]
            refine headC_range L.length (fun i e => e.put (some 13) (.int .i64 i)) (fun _ => some (AV.bool true)) rfl ?_ ?_
            · simp (config := {decide := true, contextual := true, maxSteps := 5000000}) only [enc_len, castNlt (Nat.lt_irrefl _), np6, res6, ↓simPre, simPost, capt_pure, argV_ro, argV_le, expo_pure, refsL_pure, isL_pure, k0_pure, k1_pure, ren0_pure, ren1_pure, sT_pure, sO_pure, bxGo_pure, resGo_pure, inst_pure, inst_rows, inst_bx, resP_go, viewT_pure, outs_skip, fzV_pure, bxL_pure, bxOf_pure, rowsOf_pure, rows1_pure, name1_pure, nameB1_pure, simR, reduceCtorEq, ↓reduceIte, splice, Nat.reduceAdd, Nat.reduceLT, Nat.reduceLeDiff, Nat.reduceEqDiff, Nat.reduceSub, noPtr, isPtr, notAgg, notIo, AV.capt, distinct, covers, O.keys, O.wr, okPair, disj, List.replicate, startOk]
            · intro i hi ih
              have h9 := enc_get encE L i en0 hi
              have h8 := hat i hi
              have k28 := run28 hS l ((posF (entsF l) a false + i : Nat) : Int) hl hr
              have hres : atRes l ((posF (entsF l) a false + i : Nat) : Int) = .tup [.agg (encE (L.getD i en0)), .int .i64 0] := by
                unfold atRes
                rw [if_neg (by rw [g1]; decide), if_neg (by simp; omega), Int.toNat_natCast, h8]
              rw [hres] at k28
              have w2 : IntKind.wrap .i64 ((posF (entsF l) a false : Int) + (i : Int)) = ((posF (entsF l) a false + i : Nat) : Int) := by rw [wrap_i64 (by omega) (by omega)]; omega
              generalize L.getD i en0 = x at *
              simp only [encE] at h9 k28
              have r1 : (x.k.toList == x.k.toList) = true := by simp
              have r2 : (x.r == x.r) = true := by simp
              simp (config := {decide := true, contextual := true, maxSteps := 5000000}) only [enc_len, castLt hi, k21, vo, hfl, w2, k28, h9, r1, r2, wrap_succ hi (by omega), np6, res6, ↓simPre, simPost, capt_pure, argV_ro, argV_le, expo_pure, refsL_pure, isL_pure, k0_pure, k1_pure, ren0_pure, ren1_pure, sT_pure, sO_pure, bxGo_pure, resGo_pure, inst_pure, inst_rows, inst_bx, resP_go, viewT_pure, outs_skip, fzV_pure, bxL_pure, bxOf_pure, rowsOf_pure, rows1_pure, name1_pure, nameB1_pure, simR, reduceCtorEq, ↓reduceIte, splice, Nat.reduceAdd, Nat.reduceLT, Nat.reduceLeDiff, Nat.reduceEqDiff, Nat.reduceSub, noPtr, isPtr, notAgg, notIo, AV.capt, distinct, covers, O.keys, O.wr, okPair, disj, List.replicate, startOk]
              exact ih)
      · rw [hq, if_pos rfl] at k30
        cases hfl : flats ((ownF l).map encR) <;> (
          (refine run_fn T6 ⟨rfl, by decide, by rfl⟩ ?_; rw [start6, body6, B6]; dsimp only [ov, oo, og])
          simp (config := {decide := true, contextual := true, maxSteps := 5000000}) only [k12, k19, hf, hg1, hg2, k21, vo, k30, hq, hfl, np6, res6, ↓simPre, simPost, capt_pure, argV_ro, argV_le, expo_pure, refsL_pure, isL_pure, k0_pure, k1_pure, ren0_pure, ren1_pure, sT_pure, sO_pure, bxGo_pure, resGo_pure, inst_pure, inst_rows, inst_bx, resP_go, viewT_pure, outs_skip, fzV_pure, bxL_pure, bxOf_pure, rowsOf_pure, rows1_pure, name1_pure, nameB1_pure, simR, reduceCtorEq, ↓reduceIte, splice, Nat.reduceAdd, Nat.reduceLT, Nat.reduceLeDiff, Nat.reduceEqDiff, Nat.reduceSub, noPtr, isPtr, notAgg, notIo, AV.capt, distinct, covers, O.keys, O.wr, okPair, disj, List.replicate, startOk]
          rfl)
    · (refine run_fn T6 ⟨rfl, by decide, by rfl⟩ ?_; rw [start6, body6, B6]; dsimp only [ov, oo, og])
      simp (config := {decide := true, contextual := true, maxSteps := 5000000}) only [k12, k19, hf, hg1, hg2, np6, res6, ↓simPre, simPost, capt_pure, argV_ro, argV_le, expo_pure, refsL_pure, isL_pure, k0_pure, k1_pure, ren0_pure, ren1_pure, sT_pure, sO_pure, bxGo_pure, resGo_pure, inst_pure, inst_rows, inst_bx, resP_go, viewT_pure, outs_skip, fzV_pure, bxL_pure, bxOf_pure, rowsOf_pure, rows1_pure, name1_pure, nameB1_pure, simR, reduceCtorEq, ↓reduceIte, splice, Nat.reduceAdd, Nat.reduceLT, Nat.reduceLeDiff, Nat.reduceEqDiff, Nat.reduceSub, noPtr, isPtr, notAgg, notIo, AV.capt, distinct, covers, O.keys, O.wr, okPair, disj, List.replicate, startOk]
  · (refine run_fn T6 ⟨rfl, by decide, by rfl⟩ ?_; rw [start6, body6, B6]; dsimp only [ov, oo, og])
    simp (config := {decide := true, contextual := true, maxSteps := 5000000}) only [k12, k19, hf, hg1, np6, res6, ↓simPre, simPost, capt_pure, argV_ro, argV_le, expo_pure, refsL_pure, isL_pure, k0_pure, k1_pure, ren0_pure, ren1_pure, sT_pure, sO_pure, bxGo_pure, resGo_pure, inst_pure, inst_rows, inst_bx, resP_go, viewT_pure, outs_skip, fzV_pure, bxL_pure, bxOf_pure, rowsOf_pure, rows1_pure, name1_pure, nameB1_pure, simR, reduceCtorEq, ↓reduceIte, splice, Nat.reduceAdd, Nat.reduceLT, Nat.reduceLeDiff, Nat.reduceEqDiff, Nat.reduceSub, noPtr, isPtr, notAgg, notIo, AV.capt, distinct, covers, O.keys, O.wr, okPair, disj, List.replicate, startOk]
end Go.Nv
