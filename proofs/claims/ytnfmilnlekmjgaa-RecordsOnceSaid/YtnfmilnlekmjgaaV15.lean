/- BY VALUE, chapter 26: RecordsOnce's function gives true. -/
import Derived.Test.YtnfmilnlekmjgaaV9
import Derived.Test.YtnfmilnlekmjgaaU9a
set_option linter.unusedSimpArgs false
set_option linter.unusedVariables false
namespace Go.Bv
attribute [local congr] ite_congr congr_bindOps congr_bindC congr_andThen congr_orNone congr_onBool congr_onEff congr_headC
set_option maxRecDepth 100000
set_option maxHeartbeats 40000000
/-- How many records are there. -/
def thereN : List (Bool × ByteArray) → Nat
  | [] => 0
  | r :: l => (if r.1 = true then 0 else 1) + thereN l
theorem thereN_append (a b : List (Bool × ByteArray)) : thereN (a ++ b) = thereN a + thereN b := by
  induction a with
  | nil => simp [thereN]
  | cons r l ih => simp only [List.cons_append, thereN, ih]; omega
theorem thereN_le (a : List (Bool × ByteArray)) : thereN a ≤ a.length := by
  induction a with
  | nil => simp [thereN]
  | cons r l ih => simp only [thereN, List.length_cons]; split <;> omega
theorem thereN_split (rs : List (Bool × ByteArray)) (k : Nat) : thereN rs = thereN (rs.take k) + thereN (rs.drop k) := by
  rw [← thereN_append, List.take_append_drop]
theorem thereN_drop {rs : List (Bool × ByteArray)} {k : Nat} (h : k < rs.length) : thereN (rs.drop k) = (if (rs.getD k (false, bs [])).1 = true then 0 else 1) + thereN (rs.drop (k + 1)) := by
  rw [drop_cons (false, bs []) h]; rfl
theorem seek_up (rs : List (Bool × ByteArray)) : ∀ (k : Nat) (m : Int), 1 ≤ m → m ≤ (rs.length : Int) + 1 → k = mu rs 1 m → let f := seek rs 1 k m
    (f = 0 → thereN (rs.drop (m - 1).toNat) = 0) ∧ (f ≠ 0 → m ≤ f ∧ f ≤ (rs.length : Int) ∧ isDel rs f = false ∧ thereN (rs.drop (m - 1).toNat) = 1 + thereN (rs.drop f.toNat)) := by
  intro k
  induction k with
  | zero =>
    intro m h1 h2 hk
    have : m = (rs.length : Int) + 1 := by unfold mu at hk; simp at hk; omega
    refine ⟨fun _ => ?_, fun hh => absurd rfl hh⟩
    have e : rs.drop (m - 1).toNat = [] := List.drop_eq_nil_of_le (by omega)
    rw [e]; rfl
  | succ k ih =>
    intro m h1 h2 hk
    have hlt : m ≤ (rs.length : Int) := by unfold mu at hk; simp at hk; omega
    have d : (decide (1 ≤ m) && decide (m ≤ (rs.length : Int))) = true := by simp; omega
    have hn : (m - 1).toNat < rs.length := by omega
    have hdr := thereN_drop hn
    have e1 : (m - 1).toNat + 1 = (m + 1 - 1).toNat := by omega
    simp only [seek, d, if_true]
    cases hd : isDel rs m with
    | true =>
      have hd' : (rs.getD (m - 1).toNat (false, bs [])).1 = true := hd
      simp only [if_true]
      obtain ⟨i1, i2⟩ := ih (m + 1) (by omega) (by omega) (by unfold mu at hk ⊢; simp only [if_true] at hk ⊢; omega)
      rw [hdr, hd', e1]
      simp only [if_true, Nat.zero_add]
      exact ⟨i1, fun hh => by obtain ⟨a, b, c, d⟩ := i2 hh; exact ⟨by omega, b, c, d⟩⟩
    | false =>
      have hd' : (rs.getD (m - 1).toNat (false, bs [])).1 = false := hd
      simp only [Bool.false_eq_true, if_false]
      refine ⟨fun hh => by omega, fun _ => ⟨Int.le_refl _, hlt, hd, ?_⟩⟩
      rw [hdr, hd']
      have : (m - 1).toNat + 1 = m.toNat := by omega
      rw [this]; rfl
theorem seek_down (rs : List (Bool × ByteArray)) : ∀ (k : Nat) (m : Int), 0 ≤ m → m ≤ (rs.length : Int) → k = mu rs (-1) m → let f := seek rs (-1) k m
    (f = 0 → thereN (rs.take m.toNat) = 0) ∧ (f ≠ 0 → 1 ≤ f ∧ f ≤ m ∧ isDel rs f = false ∧ thereN (rs.take m.toNat) = 1 + thereN (rs.take (f - 1).toNat)) := by
  intro k
  have hmu : ∀ m, mu rs (-1) m = m.toNat := fun m => by unfold mu; rw [if_neg (by decide)]
  induction k with
  | zero =>
    intro m h1 h2 hk
    rw [hmu] at hk
    refine ⟨fun _ => ?_, fun hh => absurd rfl hh⟩
    rw [← hk]; rfl
  | succ k ih =>
    intro m h1 h2 hk
    rw [hmu] at hk
    have d : (decide (1 ≤ m) && decide (m ≤ (rs.length : Int))) = true := by simp; omega
    have hn : (m - 1).toNat < rs.length := by omega
    have htk : rs.take m.toNat = rs.take (m - 1).toNat ++ [rs.getD (m - 1).toNat (false, bs [])] := by
      have : m.toNat = (m - 1).toNat + 1 := by omega
      rw [this, List.take_add_one, List.getElem?_eq_getElem hn, List.getD_eq_getElem?_getD, List.getElem?_eq_getElem hn]; rfl
    have hts : thereN (rs.take m.toNat) = thereN (rs.take (m - 1).toNat) + (if (rs.getD (m - 1).toNat (false, bs [])).1 = true then 0 else 1) := by
      rw [htk, thereN_append]; simp [thereN]
    simp only [seek, d, if_true]
    cases hd : isDel rs m with
    | true =>
      have hd' : (rs.getD (m - 1).toNat (false, bs [])).1 = true := hd
      simp only [if_true]
      have e1 : m + -1 = m - 1 := by omega
      rw [e1]
      obtain ⟨i1, i2⟩ := ih (m - 1) (by omega) (by omega) (by rw [hmu]; omega)
      rw [hts, hd']
      simp only [if_true, Nat.add_zero]
      exact ⟨i1, fun hh => by obtain ⟨a, b, c, d⟩ := i2 hh; exact ⟨a, by omega, c, d⟩⟩
    | false =>
      have hd' : (rs.getD (m - 1).toNat (false, bs [])).1 = false := hd
      simp only [Bool.false_eq_true, if_false]
      refine ⟨fun hh => by omega, fun _ => ⟨by omega, Int.le_refl _, hd, ?_⟩⟩
      rw [hts, hd']
      simp only [Bool.false_eq_true, if_false]; omega
/-- What is stepped from 'o' on, forwards. -/
theorem find_up {rs : List (Bool × ByteArray)} {o : Int} (h1 : 0 ≤ o) (h2 : o ≤ (rs.length : Int)) : (find rs 1 (o + 1) = 0 → thereN (rs.take o.toNat) = thereN rs) ∧
    (find rs 1 (o + 1) ≠ 0 → o < find rs 1 (o + 1) ∧ find rs 1 (o + 1) ≤ (rs.length : Int) ∧ isDel rs (find rs 1 (o + 1)) = false ∧ thereN (rs.take (find rs 1 (o + 1)).toNat) = thereN (rs.take o.toNat) + 1) := by
  obtain ⟨i1, i2⟩ := seek_up rs (mu rs 1 (o + 1)) (o + 1) (by omega) (by omega) rfl
  have e : (o + 1 - 1).toNat = o.toNat := by omega
  rw [e] at i1 i2
  unfold find
  refine ⟨fun hh => ?_, fun hh => ?_⟩
  · have := thereN_split rs o.toNat
    have := i1 hh; omega
  · obtain ⟨a, b, c, d⟩ := i2 hh
    have := thereN_split rs o.toNat
    have := thereN_split rs (seek rs 1 (mu rs 1 (o + 1)) (o + 1)).toNat
    exact ⟨by omega, b, c, by omega⟩
theorem find_down {rs : List (Bool × ByteArray)} {o : Int} (h1 : 1 ≤ o) (h2 : o ≤ (rs.length : Int) + 1) : (find rs (-1) (o + -1) = 0 → thereN (rs.drop (o - 1).toNat) = thereN rs) ∧
    (find rs (-1) (o + -1) ≠ 0 → find rs (-1) (o + -1) < o ∧ 1 ≤ find rs (-1) (o + -1) ∧ isDel rs (find rs (-1) (o + -1)) = false ∧ thereN (rs.drop (find rs (-1) (o + -1) - 1).toNat) = thereN (rs.drop (o - 1).toNat) + 1) := by
  obtain ⟨i1, i2⟩ := seek_down rs (mu rs (-1) (o + -1)) (o + -1) (by omega) (by omega) rfl
  have e : (o + -1).toNat = (o - 1).toNat := by omega
  rw [e] at i1 i2
  unfold find
  refine ⟨fun hh => ?_, fun hh => ?_⟩
  · have := thereN_split rs (o - 1).toNat
    have := i1 hh; omega
  · obtain ⟨a, b, c, d⟩ := i2 hh
    have := thereN_split rs (o - 1).toNat
    have := thereN_split rs (seek rs (-1) (mu rs (-1) (o + -1)) (o + -1) - 1).toNat
    exact ⟨by omega, a, c, by omega⟩
end Go.Bv

/- BY VALUE, chapter 26: RecordsOnce's function gives true. -/
set_option linter.unusedSimpArgs false
set_option linter.unusedVariables false
namespace Go.Bv
attribute [local congr] ite_congr congr_bindOps congr_bindC congr_andThen congr_orNone congr_onBool congr_onEff congr_headC
set_option maxRecDepth 100000
set_option maxHeartbeats 40000000
section
variable (fn n : ByteArray) (l : List Fd) (ks : List (ByteArray × Bool)) (u : Bool) (rs : List (Bool × ByteArray))
abbrev tab7 (fn n : ByteArray) (l : List Fd) (ks : List (ByteArray × Bool)) (u : Bool) (rs : List (Bool × ByteArray)) : List AV := [.str fn, .str n, .sl (l.map encF), .sl (ks.map encK), .bool u, .sl (rs.map encR)]
abbrev bools7 : AV := .sl [[.bool false], [.bool true]]
def st7o (q : Int) : Env := ⟨[.unk, .ptr 1 0 0] ++ List.replicate 21 .unk ++ [bools7, .int .i64 2, .int .i64 q] ++ List.replicate 98 .unk, [⟨0, .dead⟩, ⟨0, .box (tab7 fn n l ks u rs)⟩] ++ List.replicate 122 ⟨0, .dead⟩⟩
def outer7 (i : Nat) : Env := match i with
  | 0 => st7o fn n l ks u rs 0
  | 1 => st7o fn n l ks u rs 1
  | _ => st7o fn n l ks u rs 2
def st7 (b : Bool) (q : Int) (x : Int × List Int) : Env := match x.2 with
  | [] => ⟨[.unk, .ptr 1 0 0, .unk, .unk, .bool b, .ptr 5 0 0, .nil, .int .i64 0] ++ List.replicate 15 .unk ++ [bools7, .int .i64 2, .int .i64 q] ++ List.replicate 98 .unk,
      [⟨0, .dead⟩, ⟨0, .box (tab7 fn n l ks u rs)⟩, ⟨0, .dead⟩, ⟨0, .dead⟩, ⟨0, .dead⟩, ⟨0, .box [.int .i64 x.1, .bool false]⟩] ++ List.replicate 118 ⟨0, .dead⟩⟩
  | y :: L => ⟨[.unk, .ptr 1 0 0, .unk, .unk, .bool b, .ptr 5 0 0, .own 100 0, .int .i64 (L.length + 1 : Nat)] ++ List.replicate 15 .unk ++ [bools7, .int .i64 2, .int .i64 q] ++ List.replicate 98 .unk,
      [⟨0, .dead⟩, ⟨0, .box (tab7 fn n l ks u rs)⟩, ⟨0, .dead⟩, ⟨0, .dead⟩, ⟨0, .dead⟩, ⟨0, .box [.int .i64 x.1, .bool false]⟩] ++ List.replicate 94 ⟨0, .dead⟩ ++ [⟨0, .row 3 1 0 (ints (y :: L))⟩] ++ List.replicate 23 ⟨0, .dead⟩⟩
def st7c (q : Int) (L : List Int) (k : Nat) : Env := match L with
  | [] => ⟨[.unk, .ptr 1 0 0, .unk, .unk, .unk, .unk, .nil, .unk, .unk, .unk, .unk, .int .i64 (thereN (rs.take k)), .int .i64 k] ++ List.replicate 10 .unk ++ [bools7, .int .i64 2, .int .i64 q] ++ List.replicate 98 .unk,
      [⟨0, .dead⟩, ⟨0, .box (tab7 fn n l ks u rs)⟩] ++ List.replicate 122 ⟨0, .dead⟩⟩
  | y :: L => ⟨[.unk, .ptr 1 0 0, .unk, .unk, .unk, .unk, .own 100 0, .unk, .unk, .unk, .unk, .int .i64 (thereN (rs.take k)), .int .i64 k] ++ List.replicate 10 .unk ++ [bools7, .int .i64 2, .int .i64 q] ++ List.replicate 98 .unk,
      [⟨0, .dead⟩, ⟨0, .box (tab7 fn n l ks u rs)⟩] ++ List.replicate 98 ⟨0, .dead⟩ ++ [⟨0, .row 3 1 0 (ints (y :: L))⟩] ++ List.replicate 23 ⟨0, .dead⟩⟩
theorem thereN_step {rs : List (Bool × ByteArray)} {k : Nat} (h : k < rs.length) : thereN (rs.take (k + 1)) = thereN (rs.take k) + if (!(rs.getD k (false, bs [])).1) = true then 1 else 0 := by
  have e : rs.take (k + 1) = rs.take k ++ [rs.getD k (false, bs [])] := by
    rw [List.take_add_one, List.getElem?_eq_getElem h]
    simp [List.getD_eq_getElem?_getD, List.getElem?_eq_getElem h]
  rw [e, thereN_append]
  generalize rs.getD k (false, bs []) = r
  cases hr : r.1 <;> simp [thereN, hr]
theorem isThere_of {rs : List (Bool × ByteArray)} {m : Int} (h1 : 1 ≤ m) (h2 : m ≤ (rs.length : Int)) (h3 : isDel rs m = false) : isThere rs m = true := by
  unfold isThere; rw [h3]; simp; omega
theorem ints_snoc (L : List Int) (x : Int) : ints L ++ [[.int .i64 x]] = ints (L ++ [x]) := by simp [ints]
theorem ints_all (L : List Int) : (ints L).all (fun y => y.length == 1) = true := by simp [ints]
theorem run7 : run T S40 7 [.agg (tabC fn n l ks u rs)] = some (.bool true) := by
  have h15 := awake40
  have h36 := run36 (S := S40) fn n l ks u rs
  cases g1 : fewTable fn n l ks rs with
  | false =>
    rw [g1] at h36
    simp only [tabC] at h36 ⊢
    (refine run_fn T7 ⟨rfl, by decide⟩ ?_; rw [start7])
    simp (config := {decide := true, contextual := true, maxSteps := 3000000}) only [F7, h15, h36, List.replicate, ↓simPre, simPost, Bool.not_not, Bool.not_false, Bool.not_true, Bool.false_eq_true, reduceCtorEq, ↓reduceIte, decide_true, decide_false, splice, results, resT, resTs, AV.key, Bool.and_true, Bool.true_and, and_true, true_and, and_self, List.flatMap_nil, List.flatMap_cons, List.append_nil, List.nil_append, List.cons_append, List.map_cons, List.map_nil, List.all_cons, List.all_nil, List.length_cons, List.length_nil, Nat.reduceAdd, Nat.reduceLT, Nat.reduceLeDiff, Nat.reduceEqDiff, Nat.reduceSub, Nat.zero_add, Nat.add_zero, List.drop_succ_cons, List.drop_zero, List.take_succ_cons, List.take_zero]
  | true =>
  rw [g1] at h36
  have hsm := small_few g1
  obtain ⟨t1, t2, t3, t4, t5⟩ := few_table g1
  have h45 := run45 (S := S40) fn n l ks u rs hsm
  by_cases hC : (checkTable fn n l ks rs).2 = 0
  case neg =>
    have hC' : ((checkTable fn n l ks rs).2 != 0) = true := by simpa using hC
    simp only [tabC] at h36 h45 ⊢
    (refine run_fn T7 ⟨rfl, by decide⟩ ?_; rw [start7])
    simp (config := {decide := true, contextual := true, maxSteps := 3000000}) only [F7, h15, h36, h45, hC', List.replicate, ↓simPre, simPost, Bool.not_not, Bool.not_false, Bool.not_true, Bool.false_eq_true, reduceCtorEq, ↓reduceIte, decide_true, decide_false, splice, results, resT, resTs, AV.key, Bool.and_true, Bool.true_and, and_true, true_and, and_self, List.flatMap_nil, List.flatMap_cons, List.append_nil, List.nil_append, List.cons_append, List.map_cons, List.map_nil, List.all_cons, List.all_nil, List.length_cons, List.length_nil, Nat.reduceAdd, Nat.reduceLT, Nat.reduceLeDiff, Nat.reduceEqDiff, Nat.reduceSub, Nat.zero_add, Nat.add_zero, List.drop_succ_cons, List.drop_zero, List.take_succ_cons, List.take_zero]
  rw [hC] at h45
  have h38 := run38 (S := S40) fn n l ks u rs (by have := t2.2.1; omega) (by omega) (by omega)
  have h46 := fun (o : Int) (h0 : 0 ≤ o) (h1 : o ≤ (rs.length : Int) + 1) (b : Bool) => by
    have := run46 fn n l ks u rs hsm o false told28 b false
    have e : openE (checkTable fn n l ks rs).2 rs o = 0 := by
      unfold openE; rw [hC]
      have : (decide (0 ≤ o) && decide (o ≤ (rs.length : Int) + 1)) = true := by simp; omega
      rw [this]; rfl
    rw [e] at this
    simpa only [bne_self_eq_false, Bool.false_eq_true, if_false] using this
  have h47 := fun m => run47 (S := S40) fn n l ks u rs m (by omega)
  simp only [tabC, tabN] at h36 h38 h45 h46 h47 ⊢
  (refine run_fn T7 ⟨rfl, by decide⟩ ?_; rw [start7])
  simp (config := {decide := true, contextual := true, maxSteps := 3000000}) only [F7, h15, h36, h45, List.length_map, List.replicate, ↓simPre, simPost, Bool.not_not, Bool.not_false, Bool.not_true, Bool.false_eq_true, reduceCtorEq, ↓reduceIte, decide_true, decide_false, splice, results, resT, resTs, AV.key, Bool.and_true, Bool.true_and, and_true, true_and, and_self, List.flatMap_nil, List.flatMap_cons, List.append_nil, List.nil_append, List.cons_append, List.map_cons, List.map_nil, List.all_cons, List.all_nil, List.length_cons, List.length_nil, Nat.reduceAdd, Nat.reduceLT, Nat.reduceLeDiff, Nat.reduceEqDiff, Nat.reduceSub, Nat.zero_add, Nat.add_zero, List.drop_succ_cons, List.drop_zero, List.take_succ_cons, List.take_zero]
  refine headC_ind (σ := Nat) (outer7 fn n l ks u rs) (fun _ => some (AV.bool true)) (fun i => 2 - i) (fun i => i ≤ 2) ?_ 0 (by omega)
  intro i hi ih
  rcases i with _ | _ | _ | i
  · have ih1 := ih 1 (by omega) (by omega)
    simp only [outer7, st7o] at ih1 ⊢
    simp (config := {decide := true, contextual := true, maxSteps := 3000000}) only [List.getD_cons_zero, List.getD_cons_succ, List.length_map, List.replicate, ↓simPre, simPost, Bool.not_not, Bool.not_false, Bool.not_true, Bool.false_eq_true, reduceCtorEq, ↓reduceIte, decide_true, decide_false, splice, results, resT, resTs, AV.key, Bool.and_true, Bool.true_and, and_true, true_and, and_self, List.flatMap_nil, List.flatMap_cons, List.append_nil, List.nil_append, List.cons_append, List.map_cons, List.map_nil, List.all_cons, List.all_nil, List.length_cons, List.length_nil, Nat.reduceAdd, Nat.reduceLT, Nat.reduceLeDiff, Nat.reduceEqDiff, Nat.reduceSub, Nat.zero_add, Nat.add_zero, List.drop_succ_cons, List.drop_zero, List.take_succ_cons, List.take_zero]
    refine headC_ind (σ := Int × List Int) (st7 fn n l ks u rs false 0) (fun _ => some (AV.bool true)) (fun x => ((rs.length : Int) - x.1).toNat) (fun x => 0 ≤ x.1 ∧ x.1 ≤ (rs.length : Int) ∧ x.2.length = thereN (rs.take x.1.toNat)) ?_ (0, []) ⟨by simp only; omega, by simp only; omega, rfl⟩
    rintro ⟨o, L⟩ hx ihx
    simp only at hx
    obtain ⟨p1, p2, p3⟩ := hx
    have hLle : L.length ≤ rs.length := by rw [p3]; exact Nat.le_trans (thereN_le _) (by simp; omega)
    have hst := h46 o p1 (by omega) false
    simp only [byOf, Bool.false_eq_true, if_false] at hst
    obtain ⟨f0, f1⟩ := find_up (rs := rs) (o := o) p1 p2
    generalize find rs 1 (o + 1) = m at hst f0 f1
    cases L with
    | nil =>
      have d7 : decide (((0 : Nat) : Int) ≤ (rs.length : Int)) = true := by simp
      by_cases hm : m = 0
      · subst hm
        have hLn : 0 = thereN rs := by have := f0 rfl; simp only [List.length_cons, List.length_nil] at p3; omega
        have hsA : stepA rs false 0 = .tup [.agg [.int .i64 0, .bool false], .str (bs []), .int .i64 9] := rfl
        rw [hsA] at hst
        simp only [st7]
        simp (config := {decide := true, contextual := true, maxSteps := 3000000}) only [h38, hst, d7, ints_len, List.length_map, List.replicate, ↓simPre, simPost, Bool.not_not, Bool.not_false, Bool.not_true, Bool.false_eq_true, reduceCtorEq, ↓reduceIte, decide_true, decide_false, splice, results, resT, resTs, AV.key, Bool.and_true, Bool.true_and, and_true, true_and, and_self, List.flatMap_nil, List.flatMap_cons, List.append_nil, List.nil_append, List.cons_append, List.map_cons, List.map_nil, List.all_cons, List.all_nil, List.length_cons, List.length_nil, Nat.reduceAdd, Nat.reduceLT, Nat.reduceLeDiff, Nat.reduceEqDiff, Nat.reduceSub, Nat.zero_add, Nat.add_zero, List.drop_succ_cons, List.drop_zero, List.take_succ_cons, List.take_zero]
        refine headC_ind (σ := Nat) (st7c fn n l ks u rs 0 []) (fun _ => some (AV.bool true)) (fun k => rs.length - k) (fun k => k ≤ rs.length) ?_ 0 (Nat.zero_le _)
        intro k hk ihk
        have wk : (thereN (rs.take k) : Nat) ≤ rs.length := Nat.le_trans (thereN_le _) (by simp; omega)
        by_cases hlt : k < rs.length
        · obtain ⟨h1, h2, h4, h5⟩ := idx hlt (by omega)
          have h3 := map_get encR rs k (false, bs []) hlt
          have hst := thereN_step hlt
          have hih := ihk (k + 1) (by omega) (by omega)
          have h48 := run48 (S := S40) (!(rs.getD k (false, bs [])).1)
          have w9 : IntKind.wrap .i64 ((thereN (rs.take k) : Int) + if (!(rs.getD k (false, bs [])).1) = true then 1 else 0) = (thereN (rs.take (k + 1)) : Int) := by
            rw [hst, wrap_i64 (by split <;> omega) (by split <;> omega)]; split <;> simp
          simp only [encR] at h3
          simp only [st7c, List.replicate, List.cons_append, List.nil_append] at hih ⊢
          simp (config := {decide := true, contextual := true, maxSteps := 3000000}) only [h1, h2, h3, h4, h5, h48, w9, List.length_map, List.replicate, ↓simPre, simPost, Bool.not_not, Bool.not_false, Bool.not_true, Bool.false_eq_true, reduceCtorEq, ↓reduceIte, decide_true, decide_false, splice, results, resT, resTs, AV.key, Bool.and_true, Bool.true_and, and_true, true_and, and_self, List.flatMap_nil, List.flatMap_cons, List.append_nil, List.nil_append, List.cons_append, List.map_cons, List.map_nil, List.all_cons, List.all_nil, List.length_cons, List.length_nil, Nat.reduceAdd, Nat.reduceLT, Nat.reduceLeDiff, Nat.reduceEqDiff, Nat.reduceSub, Nat.zero_add, Nat.add_zero, List.drop_succ_cons, List.drop_zero, List.take_succ_cons, List.take_zero]
          exact hih
        · have h2 := idxEnd (i := k) (n := rs.length) (by omega)
          have ek : k = rs.length := by omega
          have et : rs.take k = rs := by rw [ek]; exact List.take_length
          rw [et] at wk
          have hq : ((0 : Int) != (thereN rs : Int)) = false := by rw [← hLn]; simp
          simp only [st7c, et, List.replicate, List.cons_append, List.nil_append]
          simp (config := {decide := true, contextual := true, maxSteps := 3000000}) only [h2, hq, ints_len, List.length_map, List.replicate, ↓simPre, simPost, Bool.not_not, Bool.not_false, Bool.not_true, Bool.false_eq_true, reduceCtorEq, ↓reduceIte, decide_true, decide_false, splice, results, resT, resTs, AV.key, Bool.and_true, Bool.true_and, and_true, true_and, and_self, List.flatMap_nil, List.flatMap_cons, List.append_nil, List.nil_append, List.cons_append, List.map_cons, List.map_nil, List.all_cons, List.all_nil, List.length_cons, List.length_nil, Nat.reduceAdd, Nat.reduceLT, Nat.reduceLeDiff, Nat.reduceEqDiff, Nat.reduceSub, Nat.zero_add, Nat.add_zero, List.drop_succ_cons, List.drop_zero, List.take_succ_cons, List.take_zero]
          exact ih1
      · obtain ⟨g1, g2, g3, g4⟩ := f1 hm
        have d8 : decide (m ≤ o) = false := by simp; omega
        have hm1 : 1 ≤ m := by omega
        have hmn : m ≤ (rs.length : Int) := g2
        have hm' : (m == 0) = false := by simpa using hm
        have hit := isThere_of hm1 hmn g3
        have h47m := h47 m
        rw [hit] at h47m
        have w1 : IntKind.wrap .i64 (m - 1) = ((m - 1).toNat : Int) := by rw [wrap_i64 (by omega) (by omega)]; omega
        obtain ⟨i1, i2, i4, i5⟩ := idx (i := (m - 1).toNat) (n := rs.length) (by omega) (by omega)
        have i3 := map_get encR rs (m - 1).toNat (false, bs []) (by omega)
        simp only [encR] at i3
        have hsA : stepA rs false m = .tup [.agg [.int .i64 m, .bool false], .str (rs.getD (m - 1).toNat (false, bs [])).2, .int .i64 0] := by unfold stepA; rw [hm']; rfl
        rw [hsA] at hst
        have e9 : ((rs.getD (m - 1).toNat (false, bs [])).2.toList == (rs.getD (m - 1).toNat (false, bs [])).2.toList) = true := by simp
        have wl : IntKind.wrap .i64 (((0 : Nat) : Int) + 1) = ((0 + 1 : Nat) : Int) := by rw [wrap_i64 (by omega) (by simp only [List.length_cons, List.length_nil] at hLle; omega)]; omega
        have g8 : ((0 + 1) * 8 ≤ 140737488355328) = True := by simp
        have hih := ihx (m, [m]) ⟨by simp only; omega, by simp only; omega, by simp only [List.length_cons, List.length_nil] at p3 ⊢; omega⟩ (by simp only; omega)
        simp only [st7, List.replicate, List.cons_append, List.nil_append, List.length_nil, List.length_append, List.length_cons] at hih ⊢
        simp (config := {decide := true, contextual := true, maxSteps := 3000000}) only [h38, hst, h47m, d7, d8, g8, w1, wl, i1, i2, i3, i4, e9, ints_len, ints_all, ints_snoc, List.length_map, List.replicate, ↓simPre, simPost, Bool.not_not, Bool.not_false, Bool.not_true, Bool.false_eq_true, reduceCtorEq, ↓reduceIte, decide_true, decide_false, splice, results, resT, resTs, AV.key, Bool.and_true, Bool.true_and, and_true, true_and, and_self, List.flatMap_nil, List.flatMap_cons, List.append_nil, List.nil_append, List.cons_append, List.map_cons, List.map_nil, List.all_cons, List.all_nil, List.length_cons, List.length_nil, Nat.reduceAdd, Nat.reduceLT, Nat.reduceLeDiff, Nat.reduceEqDiff, Nat.reduceSub, Nat.zero_add, Nat.add_zero, List.drop_succ_cons, List.drop_zero, List.take_succ_cons, List.take_zero]
        exact hih
    | cons y L =>
      have d7 : decide (((L.length + 1 : Nat) : Int) ≤ (rs.length : Int)) = true := by simp; simp only [List.length_cons, List.length_nil] at hLle; omega
      by_cases hm : m = 0
      · subst hm
        have hLn : L.length + 1 = thereN rs := by have := f0 rfl; simp only [List.length_cons, List.length_nil] at p3; omega
        have hsA : stepA rs false 0 = .tup [.agg [.int .i64 0, .bool false], .str (bs []), .int .i64 9] := rfl
        rw [hsA] at hst
        simp only [st7]
        simp (config := {decide := true, contextual := true, maxSteps := 3000000}) only [h38, hst, d7, ints_len, List.length_map, List.replicate, ↓simPre, simPost, Bool.not_not, Bool.not_false, Bool.not_true, Bool.false_eq_true, reduceCtorEq, ↓reduceIte, decide_true, decide_false, splice, results, resT, resTs, AV.key, Bool.and_true, Bool.true_and, and_true, true_and, and_self, List.flatMap_nil, List.flatMap_cons, List.append_nil, List.nil_append, List.cons_append, List.map_cons, List.map_nil, List.all_cons, List.all_nil, List.length_cons, List.length_nil, Nat.reduceAdd, Nat.reduceLT, Nat.reduceLeDiff, Nat.reduceEqDiff, Nat.reduceSub, Nat.zero_add, Nat.add_zero, List.drop_succ_cons, List.drop_zero, List.take_succ_cons, List.take_zero]
        refine headC_ind (σ := Nat) (st7c fn n l ks u rs 0 (y :: L)) (fun _ => some (AV.bool true)) (fun k => rs.length - k) (fun k => k ≤ rs.length) ?_ 0 (Nat.zero_le _)
        intro k hk ihk
        have wk : (thereN (rs.take k) : Nat) ≤ rs.length := Nat.le_trans (thereN_le _) (by simp; omega)
        by_cases hlt : k < rs.length
        · obtain ⟨h1, h2, h4, h5⟩ := idx hlt (by omega)
          have h3 := map_get encR rs k (false, bs []) hlt
          have hst := thereN_step hlt
          have hih := ihk (k + 1) (by omega) (by omega)
          have h48 := run48 (S := S40) (!(rs.getD k (false, bs [])).1)
          have w9 : IntKind.wrap .i64 ((thereN (rs.take k) : Int) + if (!(rs.getD k (false, bs [])).1) = true then 1 else 0) = (thereN (rs.take (k + 1)) : Int) := by
            rw [hst, wrap_i64 (by split <;> omega) (by split <;> omega)]; split <;> simp
          simp only [encR] at h3
          simp only [st7c, List.replicate, List.cons_append, List.nil_append] at hih ⊢
          simp (config := {decide := true, contextual := true, maxSteps := 3000000}) only [h1, h2, h3, h4, h5, h48, w9, List.length_map, List.replicate, ↓simPre, simPost, Bool.not_not, Bool.not_false, Bool.not_true, Bool.false_eq_true, reduceCtorEq, ↓reduceIte, decide_true, decide_false, splice, results, resT, resTs, AV.key, Bool.and_true, Bool.true_and, and_true, true_and, and_self, List.flatMap_nil, List.flatMap_cons, List.append_nil, List.nil_append, List.cons_append, List.map_cons, List.map_nil, List.all_cons, List.all_nil, List.length_cons, List.length_nil, Nat.reduceAdd, Nat.reduceLT, Nat.reduceLeDiff, Nat.reduceEqDiff, Nat.reduceSub, Nat.zero_add, Nat.add_zero, List.drop_succ_cons, List.drop_zero, List.take_succ_cons, List.take_zero]
          exact hih
        · have h2 := idxEnd (i := k) (n := rs.length) (by omega)
          have ek : k = rs.length := by omega
          have et : rs.take k = rs := by rw [ek]; exact List.take_length
          rw [et] at wk
          have hq : (((L.length + 1 : Nat) : Int) != (thereN rs : Int)) = false := by rw [← hLn]; simp
          simp only [st7c, et, List.replicate, List.cons_append, List.nil_append]
          simp (config := {decide := true, contextual := true, maxSteps := 3000000}) only [h2, hq, ints_len, List.length_map, List.replicate, ↓simPre, simPost, Bool.not_not, Bool.not_false, Bool.not_true, Bool.false_eq_true, reduceCtorEq, ↓reduceIte, decide_true, decide_false, splice, results, resT, resTs, AV.key, Bool.and_true, Bool.true_and, and_true, true_and, and_self, List.flatMap_nil, List.flatMap_cons, List.append_nil, List.nil_append, List.cons_append, List.map_cons, List.map_nil, List.all_cons, List.all_nil, List.length_cons, List.length_nil, Nat.reduceAdd, Nat.reduceLT, Nat.reduceLeDiff, Nat.reduceEqDiff, Nat.reduceSub, Nat.zero_add, Nat.add_zero, List.drop_succ_cons, List.drop_zero, List.take_succ_cons, List.take_zero]
          exact ih1
      · obtain ⟨g1, g2, g3, g4⟩ := f1 hm
        have d8 : decide (m ≤ o) = false := by simp; omega
        have hm1 : 1 ≤ m := by omega
        have hmn : m ≤ (rs.length : Int) := g2
        have hm' : (m == 0) = false := by simpa using hm
        have hit := isThere_of hm1 hmn g3
        have h47m := h47 m
        rw [hit] at h47m
        have w1 : IntKind.wrap .i64 (m - 1) = ((m - 1).toNat : Int) := by rw [wrap_i64 (by omega) (by omega)]; omega
        obtain ⟨i1, i2, i4, i5⟩ := idx (i := (m - 1).toNat) (n := rs.length) (by omega) (by omega)
        have i3 := map_get encR rs (m - 1).toNat (false, bs []) (by omega)
        simp only [encR] at i3
        have hsA : stepA rs false m = .tup [.agg [.int .i64 m, .bool false], .str (rs.getD (m - 1).toNat (false, bs [])).2, .int .i64 0] := by unfold stepA; rw [hm']; rfl
        rw [hsA] at hst
        have e9 : ((rs.getD (m - 1).toNat (false, bs [])).2.toList == (rs.getD (m - 1).toNat (false, bs [])).2.toList) = true := by simp
        have wl : IntKind.wrap .i64 (((L.length + 1 : Nat) : Int) + 1) = ((L.length + 1 + 1 : Nat) : Int) := by rw [wrap_i64 (by omega) (by simp only [List.length_cons, List.length_nil] at hLle; omega)]; omega
        have g8 : ((L.length + 1 + 1) * 8 ≤ 140737488355328) = True := by simp only [List.length_cons, List.length_nil] at hLle; simp; omega
        have hih := ihx (m, y :: (L ++ [m])) ⟨by simp only; omega, by simp only; omega, by simp only [List.length_append, List.length_cons, List.length_nil] at p3 ⊢; omega⟩ (by simp only; omega)
        simp only [st7, List.replicate, List.cons_append, List.nil_append, List.length_nil, List.length_append, List.length_cons] at hih ⊢
        simp (config := {decide := true, contextual := true, maxSteps := 3000000}) only [h38, hst, h47m, d7, d8, g8, w1, wl, i1, i2, i3, i4, e9, ints_len, ints_all, ints_snoc, List.length_map, List.replicate, ↓simPre, simPost, Bool.not_not, Bool.not_false, Bool.not_true, Bool.false_eq_true, reduceCtorEq, ↓reduceIte, decide_true, decide_false, splice, results, resT, resTs, AV.key, Bool.and_true, Bool.true_and, and_true, true_and, and_self, List.flatMap_nil, List.flatMap_cons, List.append_nil, List.nil_append, List.cons_append, List.map_cons, List.map_nil, List.all_cons, List.all_nil, List.length_cons, List.length_nil, Nat.reduceAdd, Nat.reduceLT, Nat.reduceLeDiff, Nat.reduceEqDiff, Nat.reduceSub, Nat.zero_add, Nat.add_zero, List.drop_succ_cons, List.drop_zero, List.take_succ_cons, List.take_zero]
        exact hih
  · have ih1 := ih 2 (by omega) (by omega)
    have w1 : IntKind.wrap .i64 ((rs.length : Int) + 1) = (rs.length : Int) + 1 := wrap_i64 (by omega) (by omega)
    simp only [outer7, st7o] at ih1 ⊢
    simp (config := {decide := true, contextual := true, maxSteps := 3000000}) only [w1, List.getD_cons_zero, List.getD_cons_succ, List.length_map, List.replicate, ↓simPre, simPost, Bool.not_not, Bool.not_false, Bool.not_true, Bool.false_eq_true, reduceCtorEq, ↓reduceIte, decide_true, decide_false, splice, results, resT, resTs, AV.key, Bool.and_true, Bool.true_and, and_true, true_and, and_self, List.flatMap_nil, List.flatMap_cons, List.append_nil, List.nil_append, List.cons_append, List.map_cons, List.map_nil, List.all_cons, List.all_nil, List.length_cons, List.length_nil, Nat.reduceAdd, Nat.reduceLT, Nat.reduceLeDiff, Nat.reduceEqDiff, Nat.reduceSub, Nat.zero_add, Nat.add_zero, List.drop_succ_cons, List.drop_zero, List.take_succ_cons, List.take_zero]
    refine headC_ind (σ := Int × List Int) (st7 fn n l ks u rs true 1) (fun _ => some (AV.bool true)) (fun x => x.1.toNat) (fun x => 1 ≤ x.1 ∧ x.1 ≤ (rs.length : Int) + 1 ∧ x.2.length = thereN (rs.drop (x.1 - 1).toNat)) ?_ ((rs.length : Int) + 1, []) ⟨by simp only; omega, by simp only; omega, by simp only [List.length_nil]; rw [List.drop_eq_nil_of_le (by omega)]; rfl⟩
    rintro ⟨o, L⟩ hx ihx
    simp only at hx
    obtain ⟨p1, p2, p3⟩ := hx
    have hLle : L.length ≤ rs.length := by rw [p3]; exact Nat.le_trans (thereN_le _) (by simp)
    have hst := h46 o (by omega) p2 true
    simp only [byOf, if_true] at hst
    obtain ⟨f0, f1⟩ := find_down (rs := rs) (o := o) p1 p2
    generalize find rs (-1) (o + -1) = m at hst f0 f1
    cases L with
    | nil =>
      have d7 : decide (((0 : Nat) : Int) ≤ (rs.length : Int)) = true := by simp
      by_cases hm : m = 0
      · subst hm
        have hLn : 0 = thereN rs := by have := f0 rfl; simp only [List.length_cons, List.length_nil] at p3; omega
        have hsA : stepA rs false 0 = .tup [.agg [.int .i64 0, .bool false], .str (bs []), .int .i64 9] := rfl
        rw [hsA] at hst
        simp only [st7]
        simp (config := {decide := true, contextual := true, maxSteps := 3000000}) only [h38, hst, d7, ints_len, List.length_map, List.replicate, ↓simPre, simPost, Bool.not_not, Bool.not_false, Bool.not_true, Bool.false_eq_true, reduceCtorEq, ↓reduceIte, decide_true, decide_false, splice, results, resT, resTs, AV.key, Bool.and_true, Bool.true_and, and_true, true_and, and_self, List.flatMap_nil, List.flatMap_cons, List.append_nil, List.nil_append, List.cons_append, List.map_cons, List.map_nil, List.all_cons, List.all_nil, List.length_cons, List.length_nil, Nat.reduceAdd, Nat.reduceLT, Nat.reduceLeDiff, Nat.reduceEqDiff, Nat.reduceSub, Nat.zero_add, Nat.add_zero, List.drop_succ_cons, List.drop_zero, List.take_succ_cons, List.take_zero]
        refine headC_ind (σ := Nat) (st7c fn n l ks u rs 1 []) (fun _ => some (AV.bool true)) (fun k => rs.length - k) (fun k => k ≤ rs.length) ?_ 0 (Nat.zero_le _)
        intro k hk ihk
        have wk : (thereN (rs.take k) : Nat) ≤ rs.length := Nat.le_trans (thereN_le _) (by simp; omega)
        by_cases hlt : k < rs.length
        · obtain ⟨h1, h2, h4, h5⟩ := idx hlt (by omega)
          have h3 := map_get encR rs k (false, bs []) hlt
          have hst := thereN_step hlt
          have hih := ihk (k + 1) (by omega) (by omega)
          have h48 := run48 (S := S40) (!(rs.getD k (false, bs [])).1)
          have w9 : IntKind.wrap .i64 ((thereN (rs.take k) : Int) + if (!(rs.getD k (false, bs [])).1) = true then 1 else 0) = (thereN (rs.take (k + 1)) : Int) := by
            rw [hst, wrap_i64 (by split <;> omega) (by split <;> omega)]; split <;> simp
          simp only [encR] at h3
          simp only [st7c, List.replicate, List.cons_append, List.nil_append] at hih ⊢
          simp (config := {decide := true, contextual := true, maxSteps := 3000000}) only [h1, h2, h3, h4, h5, h48, w9, List.length_map, List.replicate, ↓simPre, simPost, Bool.not_not, Bool.not_false, Bool.not_true, Bool.false_eq_true, reduceCtorEq, ↓reduceIte, decide_true, decide_false, splice, results, resT, resTs, AV.key, Bool.and_true, Bool.true_and, and_true, true_and, and_self, List.flatMap_nil, List.flatMap_cons, List.append_nil, List.nil_append, List.cons_append, List.map_cons, List.map_nil, List.all_cons, List.all_nil, List.length_cons, List.length_nil, Nat.reduceAdd, Nat.reduceLT, Nat.reduceLeDiff, Nat.reduceEqDiff, Nat.reduceSub, Nat.zero_add, Nat.add_zero, List.drop_succ_cons, List.drop_zero, List.take_succ_cons, List.take_zero]
          exact hih
        · have h2 := idxEnd (i := k) (n := rs.length) (by omega)
          have ek : k = rs.length := by omega
          have et : rs.take k = rs := by rw [ek]; exact List.take_length
          rw [et] at wk
          have hq : ((0 : Int) != (thereN rs : Int)) = false := by rw [← hLn]; simp
          simp only [st7c, et, List.replicate, List.cons_append, List.nil_append]
          simp (config := {decide := true, contextual := true, maxSteps := 3000000}) only [h2, hq, ints_len, List.length_map, List.replicate, ↓simPre, simPost, Bool.not_not, Bool.not_false, Bool.not_true, Bool.false_eq_true, reduceCtorEq, ↓reduceIte, decide_true, decide_false, splice, results, resT, resTs, AV.key, Bool.and_true, Bool.true_and, and_true, true_and, and_self, List.flatMap_nil, List.flatMap_cons, List.append_nil, List.nil_append, List.cons_append, List.map_cons, List.map_nil, List.all_cons, List.all_nil, List.length_cons, List.length_nil, Nat.reduceAdd, Nat.reduceLT, Nat.reduceLeDiff, Nat.reduceEqDiff, Nat.reduceSub, Nat.zero_add, Nat.add_zero, List.drop_succ_cons, List.drop_zero, List.take_succ_cons, List.take_zero]
          exact ih1
      · obtain ⟨g1, g2, g3, g4⟩ := f1 hm
        have d8 : decide (m ≥ o) = false := by simp; omega
        have hm1 : 1 ≤ m := g2
        have hmn : m ≤ (rs.length : Int) := by omega
        have hm' : (m == 0) = false := by simpa using hm
        have hit := isThere_of hm1 hmn g3
        have h47m := h47 m
        rw [hit] at h47m
        have w1 : IntKind.wrap .i64 (m - 1) = ((m - 1).toNat : Int) := by rw [wrap_i64 (by omega) (by omega)]; omega
        obtain ⟨i1, i2, i4, i5⟩ := idx (i := (m - 1).toNat) (n := rs.length) (by omega) (by omega)
        have i3 := map_get encR rs (m - 1).toNat (false, bs []) (by omega)
        simp only [encR] at i3
        have hsA : stepA rs false m = .tup [.agg [.int .i64 m, .bool false], .str (rs.getD (m - 1).toNat (false, bs [])).2, .int .i64 0] := by unfold stepA; rw [hm']; rfl
        rw [hsA] at hst
        have e9 : ((rs.getD (m - 1).toNat (false, bs [])).2.toList == (rs.getD (m - 1).toNat (false, bs [])).2.toList) = true := by simp
        have wl : IntKind.wrap .i64 (((0 : Nat) : Int) + 1) = ((0 + 1 : Nat) : Int) := by rw [wrap_i64 (by omega) (by simp only [List.length_cons, List.length_nil] at hLle; omega)]; omega
        have g8 : ((0 + 1) * 8 ≤ 140737488355328) = True := by simp
        have hih := ihx (m, [m]) ⟨by simp only; omega, by simp only; omega, by simp only [List.length_cons, List.length_nil] at p3 ⊢; omega⟩ (by simp only; omega)
        simp only [st7, List.replicate, List.cons_append, List.nil_append, List.length_nil, List.length_append, List.length_cons] at hih ⊢
        simp (config := {decide := true, contextual := true, maxSteps := 3000000}) only [h38, hst, h47m, d7, d8, g8, w1, wl, i1, i2, i3, i4, e9, ints_len, ints_all, ints_snoc, List.length_map, List.replicate, ↓simPre, simPost, Bool.not_not, Bool.not_false, Bool.not_true, Bool.false_eq_true, reduceCtorEq, ↓reduceIte, decide_true, decide_false, splice, results, resT, resTs, AV.key, Bool.and_true, Bool.true_and, and_true, true_and, and_self, List.flatMap_nil, List.flatMap_cons, List.append_nil, List.nil_append, List.cons_append, List.map_cons, List.map_nil, List.all_cons, List.all_nil, List.length_cons, List.length_nil, Nat.reduceAdd, Nat.reduceLT, Nat.reduceLeDiff, Nat.reduceEqDiff, Nat.reduceSub, Nat.zero_add, Nat.add_zero, List.drop_succ_cons, List.drop_zero, List.take_succ_cons, List.take_zero]
        exact hih
    | cons y L =>
      have d7 : decide (((L.length + 1 : Nat) : Int) ≤ (rs.length : Int)) = true := by simp; simp only [List.length_cons, List.length_nil] at hLle; omega
      by_cases hm : m = 0
      · subst hm
        have hLn : L.length + 1 = thereN rs := by have := f0 rfl; simp only [List.length_cons, List.length_nil] at p3; omega
        have hsA : stepA rs false 0 = .tup [.agg [.int .i64 0, .bool false], .str (bs []), .int .i64 9] := rfl
        rw [hsA] at hst
        simp only [st7]
        simp (config := {decide := true, contextual := true, maxSteps := 3000000}) only [h38, hst, d7, ints_len, List.length_map, List.replicate, ↓simPre, simPost, Bool.not_not, Bool.not_false, Bool.not_true, Bool.false_eq_true, reduceCtorEq, ↓reduceIte, decide_true, decide_false, splice, results, resT, resTs, AV.key, Bool.and_true, Bool.true_and, and_true, true_and, and_self, List.flatMap_nil, List.flatMap_cons, List.append_nil, List.nil_append, List.cons_append, List.map_cons, List.map_nil, List.all_cons, List.all_nil, List.length_cons, List.length_nil, Nat.reduceAdd, Nat.reduceLT, Nat.reduceLeDiff, Nat.reduceEqDiff, Nat.reduceSub, Nat.zero_add, Nat.add_zero, List.drop_succ_cons, List.drop_zero, List.take_succ_cons, List.take_zero]
        refine headC_ind (σ := Nat) (st7c fn n l ks u rs 1 (y :: L)) (fun _ => some (AV.bool true)) (fun k => rs.length - k) (fun k => k ≤ rs.length) ?_ 0 (Nat.zero_le _)
        intro k hk ihk
        have wk : (thereN (rs.take k) : Nat) ≤ rs.length := Nat.le_trans (thereN_le _) (by simp; omega)
        by_cases hlt : k < rs.length
        · obtain ⟨h1, h2, h4, h5⟩ := idx hlt (by omega)
          have h3 := map_get encR rs k (false, bs []) hlt
          have hst := thereN_step hlt
          have hih := ihk (k + 1) (by omega) (by omega)
          have h48 := run48 (S := S40) (!(rs.getD k (false, bs [])).1)
          have w9 : IntKind.wrap .i64 ((thereN (rs.take k) : Int) + if (!(rs.getD k (false, bs [])).1) = true then 1 else 0) = (thereN (rs.take (k + 1)) : Int) := by
            rw [hst, wrap_i64 (by split <;> omega) (by split <;> omega)]; split <;> simp
          simp only [encR] at h3
          simp only [st7c, List.replicate, List.cons_append, List.nil_append] at hih ⊢
          simp (config := {decide := true, contextual := true, maxSteps := 3000000}) only [h1, h2, h3, h4, h5, h48, w9, List.length_map, List.replicate, ↓simPre, simPost, Bool.not_not, Bool.not_false, Bool.not_true, Bool.false_eq_true, reduceCtorEq, ↓reduceIte, decide_true, decide_false, splice, results, resT, resTs, AV.key, Bool.and_true, Bool.true_and, and_true, true_and, and_self, List.flatMap_nil, List.flatMap_cons, List.append_nil, List.nil_append, List.cons_append, List.map_cons, List.map_nil, List.all_cons, List.all_nil, List.length_cons, List.length_nil, Nat.reduceAdd, Nat.reduceLT, Nat.reduceLeDiff, Nat.reduceEqDiff, Nat.reduceSub, Nat.zero_add, Nat.add_zero, List.drop_succ_cons, List.drop_zero, List.take_succ_cons, List.take_zero]
          exact hih
        · have h2 := idxEnd (i := k) (n := rs.length) (by omega)
          have ek : k = rs.length := by omega
          have et : rs.take k = rs := by rw [ek]; exact List.take_length
          rw [et] at wk
          have hq : (((L.length + 1 : Nat) : Int) != (thereN rs : Int)) = false := by rw [← hLn]; simp
          simp only [st7c, et, List.replicate, List.cons_append, List.nil_append]
          simp (config := {decide := true, contextual := true, maxSteps := 3000000}) only [h2, hq, ints_len, List.length_map, List.replicate, ↓simPre, simPost, Bool.not_not, Bool.not_false, Bool.not_true, Bool.false_eq_true, reduceCtorEq, ↓reduceIte, decide_true, decide_false, splice, results, resT, resTs, AV.key, Bool.and_true, Bool.true_and, and_true, true_and, and_self, List.flatMap_nil, List.flatMap_cons, List.append_nil, List.nil_append, List.cons_append, List.map_cons, List.map_nil, List.all_cons, List.all_nil, List.length_cons, List.length_nil, Nat.reduceAdd, Nat.reduceLT, Nat.reduceLeDiff, Nat.reduceEqDiff, Nat.reduceSub, Nat.zero_add, Nat.add_zero, List.drop_succ_cons, List.drop_zero, List.take_succ_cons, List.take_zero]
          exact ih1
      · obtain ⟨g1, g2, g3, g4⟩ := f1 hm
        have d8 : decide (m ≥ o) = false := by simp; omega
        have hm1 : 1 ≤ m := g2
        have hmn : m ≤ (rs.length : Int) := by omega
        have hm' : (m == 0) = false := by simpa using hm
        have hit := isThere_of hm1 hmn g3
        have h47m := h47 m
        rw [hit] at h47m
        have w1 : IntKind.wrap .i64 (m - 1) = ((m - 1).toNat : Int) := by rw [wrap_i64 (by omega) (by omega)]; omega
        obtain ⟨i1, i2, i4, i5⟩ := idx (i := (m - 1).toNat) (n := rs.length) (by omega) (by omega)
        have i3 := map_get encR rs (m - 1).toNat (false, bs []) (by omega)
        simp only [encR] at i3
        have hsA : stepA rs false m = .tup [.agg [.int .i64 m, .bool false], .str (rs.getD (m - 1).toNat (false, bs [])).2, .int .i64 0] := by unfold stepA; rw [hm']; rfl
        rw [hsA] at hst
        have e9 : ((rs.getD (m - 1).toNat (false, bs [])).2.toList == (rs.getD (m - 1).toNat (false, bs [])).2.toList) = true := by simp
        have wl : IntKind.wrap .i64 (((L.length + 1 : Nat) : Int) + 1) = ((L.length + 1 + 1 : Nat) : Int) := by rw [wrap_i64 (by omega) (by simp only [List.length_cons, List.length_nil] at hLle; omega)]; omega
        have g8 : ((L.length + 1 + 1) * 8 ≤ 140737488355328) = True := by simp only [List.length_cons, List.length_nil] at hLle; simp; omega
        have hih := ihx (m, y :: (L ++ [m])) ⟨by simp only; omega, by simp only; omega, by simp only [List.length_append, List.length_cons, List.length_nil] at p3 ⊢; omega⟩ (by simp only; omega)
        simp only [st7, List.replicate, List.cons_append, List.nil_append, List.length_nil, List.length_append, List.length_cons] at hih ⊢
        simp (config := {decide := true, contextual := true, maxSteps := 3000000}) only [h38, hst, h47m, d7, d8, g8, w1, wl, i1, i2, i3, i4, e9, ints_len, ints_all, ints_snoc, List.length_map, List.replicate, ↓simPre, simPost, Bool.not_not, Bool.not_false, Bool.not_true, Bool.false_eq_true, reduceCtorEq, ↓reduceIte, decide_true, decide_false, splice, results, resT, resTs, AV.key, Bool.and_true, Bool.true_and, and_true, true_and, and_self, List.flatMap_nil, List.flatMap_cons, List.append_nil, List.nil_append, List.cons_append, List.map_cons, List.map_nil, List.all_cons, List.all_nil, List.length_cons, List.length_nil, Nat.reduceAdd, Nat.reduceLT, Nat.reduceLeDiff, Nat.reduceEqDiff, Nat.reduceSub, Nat.zero_add, Nat.add_zero, List.drop_succ_cons, List.drop_zero, List.take_succ_cons, List.take_zero]
        exact hih
  · simp only [outer7, st7o]
    simp (config := {decide := true, contextual := true, maxSteps := 3000000}) only [List.getD_cons_zero, List.getD_cons_succ, List.length_map, List.replicate, ↓simPre, simPost, Bool.not_not, Bool.not_false, Bool.not_true, Bool.false_eq_true, reduceCtorEq, ↓reduceIte, decide_true, decide_false, splice, results, resT, resTs, AV.key, Bool.and_true, Bool.true_and, and_true, true_and, and_self, List.flatMap_nil, List.flatMap_cons, List.append_nil, List.nil_append, List.cons_append, List.map_cons, List.map_nil, List.all_cons, List.all_nil, List.length_cons, List.length_nil, Nat.reduceAdd, Nat.reduceLT, Nat.reduceLeDiff, Nat.reduceEqDiff, Nat.reduceSub, Nat.zero_add, Nat.add_zero, List.drop_succ_cons, List.drop_zero, List.take_succ_cons, List.take_zero]
  · omega
end
end Go.Bv

/- BY VALUE, chapter 26: RecordsOnce, for all arguments. -/
set_option linter.unusedSimpArgs false
set_option linter.unusedVariables false
namespace Go.Bv
theorem walk7 (t : List AV) (ht : t.length = 6 ∧ ∀ j, j < 6 → Fits (shTab.getD j .bool) (t.getD j .unk)) :
    VSpec Go.Proofs.Try.prog 7 [.agg t] (.bool true) := by
  obtain ⟨fn, n, fs, ks, u, rs, rfl⟩ := fits_table ht
  exact (run_sound mixed T_ok S40_sound 7 _ _ (run7 fn n fs ks u rs)).1
end Go.Bv
