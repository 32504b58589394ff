/- BY VALUE, chapter 26, the reference: Big, Power, Most, signed. -/
import Derived.Test.YtnfmilnlekmjgaaG6
set_option linter.unusedSimpArgs false
set_option linter.unusedVariables false
namespace Go.Bv
variable {S : RT}
attribute [local congr] ite_congr congr_bindOps congr_bindC congr_andThen congr_orNone congr_onBool congr_onEff congr_headC
set_option maxRecDepth 100000
set_option maxHeartbeats 40000000
def bigStep (n c : Int) : Int := IntKind.wrap .i64 (IntKind.wrap .i64 (n * 256) + IntKind.wrap .i64 c)
def bigGo : List UInt8 → Int → Int
  | [], n => n
  | c :: l, n => bigGo l (bigStep n (c.toNat : Int))
theorem run121 (s : ByteArray) (hs : s.size ≤ 1000000000) : run T S 121 [.str s, .int .i64 0, .int .i64 s.size] = some (.int .i64 (bigGo s.data.toList 0)) := by
  (refine run_fn T121 ⟨rfl, by decide⟩ ?_; rw [start121])
  simp (config := {decide := true, contextual := true, maxSteps := 3000000}) only [F121, List.replicate, ↓simPre, simPost, Bool.not_not, Bool.not_false, Bool.not_true, Bool.false_eq_true, reduceCtorEq, ↓reduceIte, decide_true, decide_false, splice, results, resT, resTs, AV.key, Bool.and_true, Bool.true_and, and_true, true_and, and_self, List.flatMap_nil, List.flatMap_cons, List.append_nil, List.nil_append, List.cons_append, List.map_cons, List.map_nil, List.all_cons, List.all_nil, List.length_cons, List.length_nil, Nat.reduceAdd, Nat.reduceLT, Nat.reduceLeDiff, Nat.reduceEqDiff, Nat.reduceSub, Nat.zero_add, Nat.add_zero, List.drop_succ_cons, List.drop_zero, List.take_succ_cons, List.take_zero]
  refine Eq.trans (headC_ind (σ := Nat × Int) (fun x => ⟨[.str s, .int .i64 0, .int .i64 s.size, .unk, .unk, .unk, .unk, .int .i64 x.2, .int .i64 x.1] ++ List.replicate 15 .unk, List.replicate 24 ⟨0, .dead⟩⟩)
    (fun x => some (AV.int .i64 (bigGo (s.data.toList.drop x.1) x.2))) (fun x => s.size - x.1) (fun x => x.1 ≤ s.size) ?_ (0, 0) (Nat.zero_le _)) (by simp only [List.drop_zero])
  rintro ⟨i, n⟩ hi ih
  simp only at hi
  by_cases hlt : i < s.size
  · obtain ⟨h1, h2, h4, h5⟩ := idx hlt (by omega)
    have hb : byteAt s i = ((s.data.toList.getD i 0).toNat : Int) := by simp [byteAt]
    have w0 : IntKind.wrap .i64 ((0 : Int) + (i : Int)) = (i : Int) := by rw [wrap_i64 (by omega) (by omega)]; omega
    rw [drop_cons 0 (by rw [Array.length_toList]; exact hlt)]
    simp (config := {decide := true, contextual := true, maxSteps := 3000000}) only [h1, h2, h4, h5, hb, w0, List.replicate, ↓simPre, simPost, Bool.not_not, Bool.not_false, Bool.not_true, Bool.false_eq_true, reduceCtorEq, ↓reduceIte, decide_true, decide_false, splice, results, resT, resTs, AV.key, Bool.and_true, Bool.true_and, and_true, true_and, and_self, List.flatMap_nil, List.flatMap_cons, List.append_nil, List.nil_append, List.cons_append, List.map_cons, List.map_nil, List.all_cons, List.all_nil, List.length_cons, List.length_nil, Nat.reduceAdd, Nat.reduceLT, Nat.reduceLeDiff, Nat.reduceEqDiff, Nat.reduceSub, Nat.zero_add, Nat.add_zero, List.drop_succ_cons, List.drop_zero, List.take_succ_cons, List.take_zero]
    exact ih (i + 1, _) (by simp only; omega) (by simp only; omega)
  · have h2 := idxEnd (Nat.le_of_not_lt hlt)
    have h7 : s.data.toList.drop i = [] := List.drop_eq_nil_of_le (by rw [Array.length_toList]; exact Nat.le_of_not_lt hlt)
    simp (config := {decide := true, contextual := true, maxSteps := 3000000}) only [h2, h7, bigGo, List.replicate, ↓simPre, simPost, Bool.not_not, Bool.not_false, Bool.not_true, Bool.false_eq_true, reduceCtorEq, ↓reduceIte, decide_true, decide_false, splice, results, resT, resTs, AV.key, Bool.and_true, Bool.true_and, and_true, true_and, and_self, List.flatMap_nil, List.flatMap_cons, List.append_nil, List.nil_append, List.cons_append, List.map_cons, List.map_nil, List.all_cons, List.all_nil, List.length_cons, List.length_nil, Nat.reduceAdd, Nat.reduceLT, Nat.reduceLeDiff, Nat.reduceEqDiff, Nat.reduceSub, Nat.zero_add, Nat.add_zero, List.drop_succ_cons, List.drop_zero, List.take_succ_cons, List.take_zero]
theorem run148 (n : Int) (hn0 : 0 ≤ n) (hn : n ≤ 18) : run T S 148 [.int .i64 n] = some (.int .i64 (powT n)) := by
  (refine run_fn T148 ⟨rfl, by decide⟩ ?_; rw [start148])
  simp (config := {decide := true, contextual := true, maxSteps := 3000000}) only [F148, List.replicate, ↓simPre, simPost, Bool.not_not, Bool.not_false, Bool.not_true, Bool.false_eq_true, reduceCtorEq, ↓reduceIte, decide_true, decide_false, splice, results, resT, resTs, AV.key, Bool.and_true, Bool.true_and, and_true, true_and, and_self, List.flatMap_nil, List.flatMap_cons, List.append_nil, List.nil_append, List.cons_append, List.map_cons, List.map_nil, List.all_cons, List.all_nil, List.length_cons, List.length_nil, Nat.reduceAdd, Nat.reduceLT, Nat.reduceLeDiff, Nat.reduceEqDiff, Nat.reduceSub, Nat.zero_add, Nat.add_zero, List.drop_succ_cons, List.drop_zero, List.take_succ_cons, List.take_zero]
  have hp : powT n = pow10 n.toNat := by unfold powT; rw [if_neg (by omega)]
  rw [hp]
  refine Eq.trans (headC_ind (σ := Nat) (fun i => ⟨[.int .i64 n, .unk, .unk, .int .i64 (pow10 i), .int .i64 i] ++ List.replicate 8 .unk, List.replicate 13 ⟨0, .dead⟩⟩)
    (fun i => some (AV.int .i64 (pow10 n.toNat))) (fun i => n.toNat - i) (fun i => i ≤ n.toNat) ?_ 0 (Nat.zero_le _)) (by simp)
  intro i hi ih
  by_cases hlt : i < n.toNat
  · have h2 : ((i : Int) < n) = True := by simp; omega
    obtain ⟨h1, -, h4, h5⟩ := idx hlt (by omega)
    have hr := pow10_range (n := i + 1) (by omega)
    simp only [pow10] at hr
    have h6 : IntKind.wrap .i64 (pow10 i * 10) = pow10 (i + 1) := by simp only [pow10]; rw [Int.mul_comm]; exact wrap_i64 (by omega) (by omega)
    simp (config := {decide := true, contextual := true, maxSteps := 3000000}) only [h2, h5, h6, List.replicate, ↓simPre, simPost, Bool.not_not, Bool.not_false, Bool.not_true, Bool.false_eq_true, reduceCtorEq, ↓reduceIte, decide_true, decide_false, splice, results, resT, resTs, AV.key, Bool.and_true, Bool.true_and, and_true, true_and, and_self, List.flatMap_nil, List.flatMap_cons, List.append_nil, List.nil_append, List.cons_append, List.map_cons, List.map_nil, List.all_cons, List.all_nil, List.length_cons, List.length_nil, Nat.reduceAdd, Nat.reduceLT, Nat.reduceLeDiff, Nat.reduceEqDiff, Nat.reduceSub, Nat.zero_add, Nat.add_zero, List.drop_succ_cons, List.drop_zero, List.take_succ_cons, List.take_zero]
    exact ih (i + 1) (by omega) (by omega)
  · have h2 : ((i : Int) < n) = False := by simp; omega
    have h7 : n.toNat = i := by omega
    simp (config := {decide := true, contextual := true, maxSteps := 3000000}) only [h2, h7, List.replicate, ↓simPre, simPost, Bool.not_not, Bool.not_false, Bool.not_true, Bool.false_eq_true, reduceCtorEq, ↓reduceIte, decide_true, decide_false, splice, results, resT, resTs, AV.key, Bool.and_true, Bool.true_and, and_true, true_and, and_self, List.flatMap_nil, List.flatMap_cons, List.append_nil, List.nil_append, List.cons_append, List.map_cons, List.map_nil, List.all_cons, List.all_nil, List.length_cons, List.length_nil, Nat.reduceAdd, Nat.reduceLT, Nat.reduceLeDiff, Nat.reduceEqDiff, Nat.reduceSub, Nat.zero_add, Nat.add_zero, List.drop_succ_cons, List.drop_zero, List.take_succ_cons, List.take_zero]
theorem run122 (t : Ty) (h0 : 0 ≤ t.l) (h18 : t.l ≤ 18) : run T S 122 [.agg (encT t)] = some (.int .i64 (powT t.l - 1)) := by
  obtain ⟨k, l, sc⟩ := t
  simp only at h0 h18
  simp only [encT]
  have h148 := run148 (S := S) l h0 h18
  have hr := powT_range l
  have w1 : IntKind.wrap .i64 (powT l - 1) = powT l - 1 := wrap_i64 (by omega) (by omega)
  (refine run_fn T122 ⟨rfl, by decide⟩ ?_; rw [start122])
  simp (config := {decide := true, contextual := true, maxSteps := 3000000}) only [F122, h148, w1, List.replicate, ↓simPre, simPost, Bool.not_not, Bool.not_false, Bool.not_true, Bool.false_eq_true, reduceCtorEq, ↓reduceIte, decide_true, decide_false, splice, results, resT, resTs, AV.key, Bool.and_true, Bool.true_and, and_true, true_and, and_self, List.flatMap_nil, List.flatMap_cons, List.append_nil, List.nil_append, List.cons_append, List.map_cons, List.map_nil, List.all_cons, List.all_nil, List.length_cons, List.length_nil, Nat.reduceAdd, Nat.reduceLT, Nat.reduceLeDiff, Nat.reduceEqDiff, Nat.reduceSub, Nat.zero_add, Nat.add_zero, List.drop_succ_cons, List.drop_zero, List.take_succ_cons, List.take_zero]
def signN (n half : Int) : Int := if (half == 11 || half == 13) = true then IntKind.wrap .i64 (0 - n) else n
theorem run149 (n half : Int) : run T S 149 [.int .i64 n, .int .i64 half] = some (.tup [.int .i64 (signN n half), .bool (decide (half ≥ 10))]) := by
  (refine run_fn T149 ⟨rfl, by decide⟩ ?_; rw [start149])
  simp (config := {decide := true, contextual := true, maxSteps := 3000000}) only [F149, signN, List.replicate, ↓simPre, simPost, Bool.not_not, Bool.not_false, Bool.not_true, Bool.false_eq_true, reduceCtorEq, ↓reduceIte, decide_true, decide_false, splice, results, resT, resTs, AV.key, Bool.and_true, Bool.true_and, and_true, true_and, and_self, List.flatMap_nil, List.flatMap_cons, List.append_nil, List.nil_append, List.cons_append, List.map_cons, List.map_nil, List.all_cons, List.all_nil, List.length_cons, List.length_nil, Nat.reduceAdd, Nat.reduceLT, Nat.reduceLeDiff, Nat.reduceEqDiff, Nat.reduceSub, Nat.zero_add, Nat.add_zero, List.drop_succ_cons, List.drop_zero, List.take_succ_cons, List.take_zero]
  skip
  (repeat' split) <;> rfl
end Go.Bv

/- BY VALUE, chapter 26, the reference: decodeZoned, decodePacked. -/
set_option linter.unusedSimpArgs false
set_option linter.unusedVariables false
namespace Go.Bv
variable {S : RT}
attribute [local congr] ite_congr congr_bindOps congr_bindC congr_andThen congr_orNone congr_onBool congr_onEff congr_headC
set_option maxRecDepth 100000
set_option maxHeartbeats 40000000
theorem byte_lt (s : ByteArray) (i : Nat) : 0 ≤ byteAt s i ∧ byteAt s i < 256 := by
  unfold byteAt
  have := (s.data.getD i 0).toNat_lt
  omega
theorem hi_lo {c : Int} (h0 : 0 ≤ c) (h : c < 256) : hi c = c / 16 ∧ lo c = c % 16 := by
  obtain ⟨n, rfl⟩ := Int.eq_ofNat_of_zero_le h0
  have hn : n < 256 := by omega
  have key : ∀ n : Fin 256, hi ((n.val : Nat) : Int) = ((n.val : Nat) : Int) / 16 ∧ lo ((n.val : Nat) : Int) = ((n.val : Nat) : Int) % 16 := by decide +kernel
  exact key ⟨n, hn⟩
theorem byteFacts (s : ByteArray) (i : Nat) : IntKind.wrap .i64 (byteAt s i) = byteAt s i ∧ IntKind.wrap .i64 ((byteAt s i).tdiv 16) = hi (byteAt s i) ∧ (byteAt s i).tmod 16 = lo (byteAt s i) ∧
    IntKind.wrap .i64 (lo (byteAt s i)) = lo (byteAt s i) ∧ IntKind.wrap .i64 (hi (byteAt s i)) = hi (byteAt s i) ∧ 0 ≤ lo (byteAt s i) ∧ 0 ≤ hi (byteAt s i) := by
  have hb := byte_lt s i
  have hh := hi_lo hb.1 hb.2
  have e1 : (byteAt s i).tdiv 16 = byteAt s i / 16 := Int.tdiv_eq_ediv_of_nonneg hb.1
  have e2 : (byteAt s i).tmod 16 = byteAt s i % 16 := Int.tmod_eq_emod_of_nonneg hb.1
  refine ⟨wrap_i64 (by omega) (by omega), ?_, by rw [e2, hh.2], ?_, ?_, by omega, by omega⟩
  · rw [e1, hh.1]; exact wrap_i64 (by omega) (by omega)
  · rw [hh.2]; exact wrap_i64 (by omega) (by omega)
  · rw [hh.1]; exact wrap_i64 (by omega) (by omega)
theorem getD_app_l (a b : List Int) (i : Nat) (h : i < a.length) : (a ++ b).getD i 0 = a.getD i 0 := by
  simp [List.getD_eq_getElem?_getD, List.getElem?_append_left h]
theorem getD_app_r (a b : List Int) (i : Nat) (h : a.length ≤ i) : (a ++ b).getD i 0 = b.getD (i - a.length) 0 := by
  simp [List.getD_eq_getElem?_getD, List.getElem?_append_right h]
theorem zoneD_get (s : ByteArray) {n i : Nat} (h : i < n) : (zoneD s n).getD i 0 = lo (byteAt s i) := by
  induction n with
  | zero => omega
  | succ n ih =>
    simp only [zoneD]
    by_cases hi' : i < n
    · rw [getD_app_l _ _ _ (by rw [zoneD_len]; exact hi')]; exact ih hi'
    · obtain rfl : i = n := by omega
      rw [getD_app_r _ _ _ (by rw [zoneD_len]; omega), zoneD_len]; simp
theorem zoneA_get {n i : Nat} (h : i < n) : (zoneA n).getD i 0 = (i : Int) := by
  induction n with
  | zero => omega
  | succ n ih =>
    simp only [zoneA]
    by_cases hi' : i < n
    · rw [getD_app_l _ _ _ (by rw [zoneA_len]; exact hi')]; exact ih hi'
    · obtain rfl : i = n := by omega
      rw [getD_app_r _ _ _ (by rw [zoneA_len]; omega), zoneA_len]; simp
theorem packD_get (s : ByteArray) {n i : Nat} (h : i < 2 * n) : (packD s n).getD i 0 = if i % 2 = 1 then lo (byteAt s (i / 2)) else hi (byteAt s (i / 2)) := by
  induction n with
  | zero => omega
  | succ n ih =>
    simp only [packD]
    by_cases hi' : i < 2 * n
    · rw [getD_app_l _ _ _ (by rw [packD_len]; exact hi')]; exact ih hi'
    · rw [getD_app_r _ _ _ (by rw [packD_len]; omega), packD_len]
      have h2 : i = 2 * n ∨ i = 2 * n + 1 := by omega
      rcases h2 with rfl | rfl
      · have e1 : 2 * n % 2 = 0 := by omega
        have e2 : 2 * n / 2 = n := by omega
        simp [e1, e2]
      · have e1 : (2 * n + 1) % 2 = 1 := by omega
        have e2 : (2 * n + 1) / 2 = n := by omega
        simp [e1, e2]
theorem packA_get {n i : Nat} (h : i < 2 * n) : (packA n).getD i 0 = ((i / 2 : Nat) : Int) := by
  induction n with
  | zero => omega
  | succ n ih =>
    simp only [packA]
    by_cases hi' : i < 2 * n
    · rw [getD_app_l _ _ _ (by rw [packA_len]; exact hi')]; exact ih hi'
    · rw [getD_app_r _ _ _ (by rw [packA_len]; omega), packA_len]
      have h2 : i = 2 * n ∨ i = 2 * n + 1 := by omega
      rcases h2 with rfl | rfl
      · have e2 : 2 * n / 2 = n := by omega
        simp [e2]
      · have e2 : (2 * n + 1) / 2 = n := by omega
        simp [e2]
theorem wrap_0 : IntKind.wrap .i64 0 = 0 := rfl
def dres (x : Int × Int × Int) : AV := encD (⟨x.1, bs []⟩, x.2.1, x.2.2)
theorem dres_ite {c : Prop} [Decidable c] {x y : Int × Int × Int} : dres (if c then x else y) = if c then dres x else dres y := by split <;> rfl
theorem run123 (t : Ty) (ht : t.k = 2) (s : ByteArray) (hs : 1 ≤ s.size) (hs2 : s.size ≤ 1000) (hl : t.l = s.size) : run T S 123 [.str s] = some (dres (decimalN t s)) := by
  have hk : (t.k == 1) = false := by rw [ht]; rfl
  have e0 : IntKind.wrap .i64 ((s.size : Int) - t.l) = 0 := by rw [hl, Int.sub_self]; rfl
  unfold decimalN
  simp only [hk, Bool.false_eq_true, if_false, e0]
  generalize hD : zoneD s s.size ++ [hi (byteAt s (s.size - 1))] = D
  generalize hA : zoneA s.size ++ [(s.size : Int) - 1] = A
  have d1 : ∀ i, i < s.size → D.getD i 0 = lo (byteAt s i) := fun i h => by rw [← hD, getD_app_l _ _ _ (by rw [zoneD_len]; exact h)]; exact zoneD_get s h
  have d2 : D.getD s.size 0 = hi (byteAt s (s.size - 1)) := by rw [← hD, getD_app_r _ _ _ (by rw [zoneD_len]; omega), zoneD_len]; simp
  have a1 : ∀ i, i < s.size → A.getD i 0 = (i : Int) := fun i h => by rw [← hA, getD_app_l _ _ _ (by rw [zoneA_len]; exact h)]; exact zoneA_get h
  have a2 : A.getD s.size 0 = (s.size : Int) - 1 := by rw [← hA, getD_app_r _ _ _ (by rw [zoneA_len]; omega), zoneA_len]; simp
  have dl : D.length = s.size + 1 := by rw [← hD]; simp [zoneD_len]
  have tl : (D.take s.size).length = s.size := by simp; omega
  have tg : ∀ i, i < s.size → (D.take s.size).getD i 0 = D.getD i 0 := fun i h => by simp [List.getD_eq_getElem?_getD, List.getElem?_take, h]
  have w1 : IntKind.wrap .i64 ((s.size : Int) - 1) = ((s.size - 1 : Nat) : Int) := by rw [wrap_i64 (by omega) (by omega)]; omega
  (refine run_fn T123 ⟨rfl, by decide⟩ ?_; rw [start123])
  simp (config := {decide := true, contextual := true, maxSteps := 3000000}) only [F123, List.replicate, ↓simPre, simPost, Bool.not_not, Bool.not_false, Bool.not_true, Bool.false_eq_true, reduceCtorEq, ↓reduceIte, decide_true, decide_false, splice, results, resT, resTs, AV.key, Bool.and_true, Bool.true_and, and_true, true_and, and_self, List.flatMap_nil, List.flatMap_cons, List.append_nil, List.nil_append, List.cons_append, List.map_cons, List.map_nil, List.all_cons, List.all_nil, List.length_cons, List.length_nil, Nat.reduceAdd, Nat.reduceLT, Nat.reduceLeDiff, Nat.reduceEqDiff, Nat.reduceSub, Nat.zero_add, Nat.add_zero, List.drop_succ_cons, List.drop_zero, List.take_succ_cons, List.take_zero]
  refine Eq.trans (headC_ind (σ := Nat × Int × Int) (fun x => ⟨[.str s, .unk, .ptr 2 0 0, .unk, .unk, .int .i64 x.2.1, .int .i64 x.2.2, .int .i64 x.1] ++ List.replicate 43 .unk, [⟨0, .dead⟩, ⟨0, .dead⟩, ⟨0, .box [.int .i64 0, .str (bs [])]⟩] ++ List.replicate 48 ⟨0, .dead⟩⟩)
    (fun x => some (dres (decGo D A s.size 0 ((D.take s.size).drop x.1) x.1 x.2.1))) (fun x => s.size - x.1) (fun x => x.1 ≤ s.size ∧ (x.1 < s.size → x.2.2 = 15) ∧ (x.1 = s.size → x.2.2 = hi (byteAt s (s.size - 1)) ∧ decide (hi (byteAt s (s.size - 1)) < 10) = false)) ?_ (0, 0, 15) ⟨Nat.zero_le _, fun _ => rfl, fun h => by simp only at h; omega⟩) (by simp only [List.drop_zero])
  rintro ⟨i, n, g⟩ ⟨hi', hg15, hp⟩ ih
  simp only at hi' hg15 hp
  by_cases hlt : i < s.size
  · obtain ⟨h1, h2, h4, h5⟩ := idx hlt (by omega)
    obtain ⟨b1, b2, b3, b4, b5, b6, b7⟩ := byteFacts s i
    have hg : decGo D A s.size 0 ((D.take s.size).drop i) i n = if (decide (lo (byteAt s i) > 9)) = true then (0, (i : Int), 21) else decGo D A s.size 0 ((D.take s.size).drop (i + 1)) (i + 1) (IntKind.wrap .i64 (IntKind.wrap .i64 (10 * n) + lo (byteAt s i))) := by
      rw [drop_cons 0 (by rw [tl]; exact hlt), tg i hlt, d1 i hlt]
      simp only [decGo, a1 i hlt, b4, Int.mul_comm 10 n]
      have : decide ((i : Int) < 0) = false := by simp
      simp only [this, Bool.and_false, Bool.or_false]
    obtain rfl := hg15 hlt
    simp only [hg, dres_ite]
    by_cases hlast : i + 1 = s.size
    · have i1 : s.size - 1 = i := by omega
      have c1 : ((i : Int) == ((s.size - 1 : Nat) : Int)) = true := by rw [i1]; simp
      have hih := ih (i + 1, IntKind.wrap .i64 (IntKind.wrap .i64 (10 * n) + lo (byteAt s i)), hi (byteAt s i))
      have h7 : (D.take s.size).drop (i + 1) = [] := List.drop_eq_nil_of_le (by rw [tl]; omega)
      rw [i1] at hih
      simp (config := {decide := true, contextual := true, maxSteps := 3000000}) only [h1, h2, h4, h5, b1, b2, b3, w1, c1, List.replicate, ↓simPre, simPost, Bool.not_not, Bool.not_false, Bool.not_true, Bool.false_eq_true, reduceCtorEq, ↓reduceIte, decide_true, decide_false, splice, results, resT, resTs, AV.key, Bool.and_true, Bool.true_and, and_true, true_and, and_self, List.flatMap_nil, List.flatMap_cons, List.append_nil, List.nil_append, List.cons_append, List.map_cons, List.map_nil, List.all_cons, List.all_nil, List.length_cons, List.length_nil, Nat.reduceAdd, Nat.reduceLT, Nat.reduceLeDiff, Nat.reduceEqDiff, Nat.reduceSub, Nat.zero_add, Nat.add_zero, List.drop_succ_cons, List.drop_zero, List.take_succ_cons, List.take_zero]
      cases cl : decide (lo (byteAt s i) > 9) with
      | true => simp only [Bool.or_true, if_true]; rfl
      | false =>
        simp only [Bool.or_false, Bool.false_eq_true, if_false]
        cases ch : decide (hi (byteAt s i) < 10) with
        | true =>
          simp only [if_true, h7, decGo, d2, i1, ch, a2]
          have : (s.size : Int) - 1 = (i : Int) := by omega
          rw [this]; rfl
        | false =>
          simp only [Bool.false_eq_true, if_false]
          exact hih ⟨by omega, fun h => absurd h (by simp only; omega), fun _ => ⟨rfl, ch⟩⟩ (by omega)
    · have c1 : ((i : Int) == ((s.size - 1 : Nat) : Int)) = false := by simp; omega
      have hih := ih (i + 1, IntKind.wrap .i64 (IntKind.wrap .i64 (10 * n) + lo (byteAt s i)), 15) ⟨by omega, fun _ => rfl, fun h => absurd h hlast⟩ (by simp only; omega)
      simp (config := {decide := true, contextual := true, maxSteps := 3000000}) only [h1, h2, h4, h5, b1, b2, b3, w1, c1, List.replicate, ↓simPre, simPost, Bool.not_not, Bool.not_false, Bool.not_true, Bool.false_eq_true, reduceCtorEq, ↓reduceIte, decide_true, decide_false, splice, results, resT, resTs, AV.key, Bool.and_true, Bool.true_and, and_true, true_and, and_self, List.flatMap_nil, List.flatMap_cons, List.append_nil, List.nil_append, List.cons_append, List.map_cons, List.map_nil, List.all_cons, List.all_nil, List.length_cons, List.length_nil, Nat.reduceAdd, Nat.reduceLT, Nat.reduceLeDiff, Nat.reduceEqDiff, Nat.reduceSub, Nat.zero_add, Nat.add_zero, List.drop_succ_cons, List.drop_zero, List.take_succ_cons, List.take_zero]
      cases cl : decide (lo (byteAt s i) > 9) with
      | true => simp only [if_true]; rfl
      | false =>
        simp only [Bool.false_eq_true, if_false]
        exact hih
  · have h2 := idxEnd (Nat.le_of_not_lt hlt)
    obtain rfl : i = s.size := by omega
    have h7 : (D.take s.size).drop s.size = [] := List.drop_eq_nil_of_le (by rw [tl]; omega)
    obtain ⟨rfl, hp'⟩ := hp rfl
    simp (config := {decide := true, contextual := true, maxSteps := 3000000}) only [h2, run149, List.replicate, ↓simPre, simPost, Bool.not_not, Bool.not_false, Bool.not_true, Bool.false_eq_true, reduceCtorEq, ↓reduceIte, decide_true, decide_false, splice, results, resT, resTs, AV.key, Bool.and_true, Bool.true_and, and_true, true_and, and_self, List.flatMap_nil, List.flatMap_cons, List.append_nil, List.nil_append, List.cons_append, List.map_cons, List.map_nil, List.all_cons, List.all_nil, List.length_cons, List.length_nil, Nat.reduceAdd, Nat.reduceLT, Nat.reduceLeDiff, Nat.reduceEqDiff, Nat.reduceSub, Nat.zero_add, Nat.add_zero, List.drop_succ_cons, List.drop_zero, List.take_succ_cons, List.take_zero]
    simp only [h7, decGo, d2, hp', Bool.false_eq_true, if_false, dres_ite, signN]
    split <;> rfl
end Go.Bv
