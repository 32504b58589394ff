/- BY VALUE, chapter 26: what the functions need to be told; small tables. -/
import Derived.Test.YtnfmilnlekmjgaaU3
import Derived.Test.YtnfmilnlekmjgaaZ3
import Derived.Test.YtnfmilnlekmjgaaW5
set_option linter.unusedSimpArgs false
set_option linter.unusedVariables false
namespace Go.Bv
attribute [local congr] ite_congr congr_bindOps congr_bindC congr_andThen congr_orNone congr_onBool congr_onEff congr_headC
set_option maxRecDepth 100000
set_option maxHeartbeats 40000000
def rOf : List AV → Bool × ByteArray
  | [.bool b, .str s] => (b, s)
  | _ => (false, bs [])
theorem rOf_enc (l : List (Bool × ByteArray)) : (l.map encR).map rOf = l := by
  induction l with
  | nil => rfl
  | cons f l ih => simp only [List.map_cons, ih]; rfl
def recs138 : List AV → Option (List (List AV))
  | [.sl rs] => some rs
  | _ => none
open Classical in
noncomputable def S138 : RT := fun f xs => if f = 138 then (match recs138 xs with
  | some rs => if rs = (rs.map rOf).map encR ∧ rs.length ≤ 1000000 then some (.fr 87 2 rs) else none
  | none => none) else none
theorem recs138_eq {xs : List AV} {rs : List (List AV)} (h : recs138 xs = some rs) : xs = [.sl rs] := by
  unfold recs138 at h
  split at h
  · simp only [Option.some.injEq] at h; subst h; rfl
  · cases h
theorem S138_sound : VSound Go.Proofs.Try.prog S138 := by
  intro f xs r h
  unfold S138 at h
  by_cases hf : f = 138
  · subst hf
    rw [if_pos rfl] at h
    cases h1 : recs138 xs with
    | none => simp only [h1] at h; cases h
    | some rs =>
      simp only [h1] at h
      have hx := recs138_eq h1
      subst hx
      by_cases hc : rs = (rs.map rOf).map encR ∧ rs.length ≤ 1000000
      · rw [if_pos hc] at h
        simp only [Option.some.injEq] at h
        subst h
        refine ⟨clone_ok rs (fun i hi => ?_) hc.2, by kernel_rfl⟩
        rw [hc.1, map_get encR (rs.map rOf) i (false, bs []) (by simpa using hi)]
        rfl
      · rw [if_neg hc] at h; cases h
  · rw [if_neg hf] at h; cases h
noncomputable def S40 : RT := fun f xs => match S26 f xs with
  | some r => some r
  | none => S138 f xs
theorem S40_sound : VSound Go.Proofs.Try.prog S40 := by
  intro f xs r h
  unfold S40 at h
  cases h1 : S26 f xs with
  | some q =>
    simp only [h1, Option.some.injEq] at h
    rw [← h]
    exact S26_sound f xs q h1
  | none => simp only [h1] at h; exact S138_sound f xs r h
theorem S40_26 {f : Nat} {xs : List AV} {r : AV} (h : S26 f xs = some r) : S40 f xs = some r := by
  unfold S40; simp only [h]
theorem S26_some {f : Nat} {xs : List AV} {r : AV} (hT : T f = none) (h : run T S26 f xs = some r) : S26 f xs = some r := by
  obtain ⟨n, hn⟩ := run_some h
  cases n with
  | zero => simp [runK] at hn
  | succ n => rw [runK_succ, hT] at hn; exact hn
theorem told28 : Told28 S40 := by
  intro fn n l ks u h1 h2 h3
  have := run28 fn n l ks u h1 h2 h3
  exact run_ext rfl (S40_26 (S26_some rfl this))
theorem told138 : Told138 S40 := by
  intro rs hr
  refine run_ext rfl ?_
  have h26 : S26 138 [.sl (rs.map encR)] = none := by
    unfold S26 S23 S28
    simp
  unfold S40
  simp only [h26]
  unfold S138
  rw [if_pos rfl]
  simp only [recs138]
  rw [rOf_enc, if_pos ⟨rfl, by simpa using hr⟩]
theorem run15g {S : RT} (h23 : run T S 23 [dig, .sl [[.int .i64 7, .str (bs [])]]] = some (.tup [.str (bs [247]), .int .i64 0, .int .i64 0])) : run T S 15 [] = some (.bool true) := by
  have h72 : run T S 72 [] = some dig := by
    (refine run_fn T72 ⟨rfl, by decide⟩ ?_; rw [start72])
    simp (config := {decide := true, contextual := true, maxSteps := 3000000}) only [F72, dig, List.replicate, ↓simPre, simPost, Bool.not_not, Bool.not_false, Bool.not_true, Bool.false_eq_true, reduceCtorEq, ↓reduceIte, decide_true, decide_false, splice, results, resT, resTs, AV.key, Bool.and_true, Bool.true_and, and_true, true_and, and_self, List.flatMap_nil, List.flatMap_cons, List.append_nil, List.nil_append, List.cons_append, List.map_cons, List.map_nil, List.all_cons, List.all_nil, List.length_cons, List.length_nil, Nat.reduceAdd, Nat.reduceLT, Nat.reduceLeDiff, Nat.reduceEqDiff, Nat.reduceSub, Nat.zero_add, Nat.add_zero, List.drop_succ_cons, List.drop_zero, List.take_succ_cons, List.take_zero]
  have h20 := run20 (S := S) (bs [82]) [fdN] (bs [247]) dig_short (by decide)
  rw [vals7] at h20
  simp only [encVs, List.map_cons, List.map_nil, encF, encV, fdN] at h20
  simp only [dig] at h72 h23
  have b1 : ((bs [247]).toList == (bs [247]).toList) = true := by simp
  (refine run_fn T15 ⟨rfl, by decide⟩ ?_; rw [start15])
  simp (config := {decide := true, contextual := true, maxSteps := 3000000}) only [F15, h72, h23, h20, b1, List.getD_cons_zero, List.replicate, ↓simPre, simPost, Bool.not_not, Bool.not_false, Bool.not_true, Bool.false_eq_true, reduceCtorEq, ↓reduceIte, decide_true, decide_false, splice, results, resT, resTs, AV.key, Bool.and_true, Bool.true_and, and_true, true_and, and_self, List.flatMap_nil, List.flatMap_cons, List.append_nil, List.nil_append, List.cons_append, List.map_cons, List.map_nil, List.all_cons, List.all_nil, List.length_cons, List.length_nil, Nat.reduceAdd, Nat.reduceLT, Nat.reduceLeDiff, Nat.reduceEqDiff, Nat.reduceSub, Nat.zero_add, Nat.add_zero, List.drop_succ_cons, List.drop_zero, List.take_succ_cons, List.take_zero]
  rfl
theorem told23 : run T S40 23 [dig, .sl [[.int .i64 7, .str (bs [])]]] = some (.tup [.str (bs [247]), .int .i64 0, .int .i64 0]) := by
  refine run_ext rfl (S40_26 ?_)
  have : S23 23 [dig, .sl [[.int .i64 7, .str (bs [])]]] = some (.tup [.str (bs [247]), .int .i64 0, .int .i64 0]) := by unfold S23; rw [if_pos ⟨rfl, rfl⟩]
  unfold S26
  simp only [this]
theorem awake40 : run T S40 15 [] = some (.bool true) := run15g told23
theorem recs_few {rs : List (Bool × ByteArray)} (h : recsShort rs = true) : ∀ r ∈ rs, r.2.size ≤ 700 := by
  induction rs with
  | nil => intro r hr; simp at hr
  | cons g l ih =>
    simp only [recsShort] at h
    split at h
    · cases h
    · rename_i hh
      intro f hf
      rcases List.mem_cons.1 hf with rfl | hf
      · simp at hh; omega
      · exact ih h f hf
theorem few_table {fn n : ByteArray} {l : List Fd} {ks : List (ByteArray × Bool)} {rs : List (Bool × ByteArray)} (h : fewTable fn n l ks rs = true) : fn.size ≤ 100 ∧ Short n l ∧ ks.length ≤ 40 ∧ rs.length ≤ 64 ∧ ∀ r ∈ rs, r.2.size ≤ 700 := by
  unfold fewTable at h
  split at h
  · cases h
  · rename_i hh
    simp only [Bool.or_eq_true, decide_eq_true_eq, not_or, Bool.not_eq_true', Bool.not_eq_false] at hh
    obtain ⟨h1, h2⟩ := hh
    obtain ⟨f1, f2, f3⟩ := few_file h2
    exact ⟨f1, f2, f3, by omega, recs_few h⟩
theorem small_few {fn n : ByteArray} {l : List Fd} {ks : List (ByteArray × Bool)} {rs : List (Bool × ByteArray)} (h : fewTable fn n l ks rs = true) : Small fn n l ks rs := by
  obtain ⟨f1, f2, f3, f4, f5⟩ := few_table h
  exact ⟨by omega, f2, by omega, by omega, fun r hr => by have := f5 r hr; omega⟩
end Go.Bv

/- BY VALUE, chapter 26: tables that are the same; the zero table. -/
set_option linter.unusedSimpArgs false
set_option linter.unusedVariables false
namespace Go.Bv
attribute [local congr] ite_congr congr_bindOps congr_bindC congr_andThen congr_orNone congr_onBool congr_onEff congr_headC
set_option maxRecDepth 100000
set_option maxHeartbeats 40000000
theorem run43s {S : RT} (fn n : ByteArray) (l : List Fd) (ks : List (ByteArray × Bool)) (u : Bool) (rs : List (Bool × ByteArray)) (hl : l.length ≤ 1000000) (hk : ks.length ≤ 1000000) (hr : rs.length ≤ 1000000) :
    run T S 43 [.agg (tabC fn n l ks u rs), .agg (tabC fn n l ks u rs)] = some (.bool true) := by
  have := run43 (S := S) fn n l ks u rs fn n l ks u rs hl hk hr
  rw [sameFile_refl, sameRecs_refl] at this
  exact this
theorem run43n {S : RT} : run T S 43 [.agg noTab, .agg noTab] = some (.bool true) := run43s (bs []) (bs []) [] [] false [] (by simp) (by simp) (by simp)
theorem put_le (rs : List (Bool × ByteArray)) (i : Int) (r : Bool × ByteArray) : (put rs i r).length ≤ rs.length + 1 := by
  unfold put; split <;> simp
theorem run41 {S : RT} (fn n : ByteArray) (l : List Fd) (ks : List (ByteArray × Bool)) (u : Bool) (rs : List (Bool × ByteArray)) (hl : l.length ≤ 1000000) (hk : ks.length ≤ 1000000) (hr : rs.length ≤ 1000000) :
    run T S 41 [.agg (tabC fn n l ks u rs)] = some (.bool (sameFile fn n l ks u (bs []) (bs []) [] [] false && sameRecs rs [])) := by
  have h43 := run43 (S := S) fn n l ks u rs (bs []) (bs []) [] [] false [] hl hk hr
  simp only [tabC, List.map_nil] at h43 ⊢
  (refine run_fn T41 ⟨rfl, by decide⟩ ?_; rw [start41])
  simp (config := {decide := true, contextual := true, maxSteps := 3000000}) only [F41, h43, List.replicate, ↓simPre, simPost, Bool.not_not, Bool.not_false, Bool.not_true, Bool.false_eq_true, reduceCtorEq, ↓reduceIte, decide_true, decide_false, splice, results, resT, resTs, AV.key, Bool.and_true, Bool.true_and, and_true, true_and, and_self, List.flatMap_nil, List.flatMap_cons, List.append_nil, List.nil_append, List.cons_append, List.map_cons, List.map_nil, List.all_cons, List.all_nil, List.length_cons, List.length_nil, Nat.reduceAdd, Nat.reduceLT, Nat.reduceLeDiff, Nat.reduceEqDiff, Nat.reduceSub, Nat.zero_add, Nat.add_zero, List.drop_succ_cons, List.drop_zero, List.take_succ_cons, List.take_zero]
theorem run41n {S : RT} : run T S 41 [.agg noTab] = some (.bool true) := by
  have := run41 (S := S) (bs []) (bs []) [] [] false [] (by simp) (by simp) (by simp)
  rw [sameFile_refl, sameRecs_refl] at this
  exact this
end Go.Bv

/- BY VALUE, chapter 26: arguments opened: tables. -/
set_option linter.unusedSimpArgs false
set_option linter.unusedVariables false
namespace Go.Bv
/-- A slice of records. -/
theorem fits_recs {A : AV} (h : Fits (.sl [.bool, .str]) A) : ∃ l : List (Bool × ByteArray), A = .sl (l.map encR) := by
  cases h with
  | sl ks l hl h1 h2 =>
    have key : ∀ m : List (List AV), (∀ i, i < m.length → (m.getD i []).length = 2) → (∀ i j, i < m.length → j < 2 → Fits (([.bool, .str] : List Sh).getD j .bool) ((m.getD i []).getD j .unk)) →
        ∃ l : List (Bool × ByteArray), m = l.map encR := by
      intro m
      induction m with
      | nil => intro _ _; exact ⟨[], rfl⟩
      | cons x m ih =>
        intro h1 h2
        obtain ⟨l, e1⟩ := ih (fun i hi => by have := h1 (i + 1) (by simp; omega); simpa using this) (fun i j hi hj => by have := h2 (i + 1) j (by simp; omega) hj; simpa using this)
        have hx : x.length = 2 := by have := h1 0 (by simp); simpa using this
        have q := fun j hj => h2 0 j (by simp) hj
        match x, hx, q with
        | [a, b], _, q =>
          obtain ⟨k, rfl⟩ := fits_bool (q 0 (by omega))
          obtain ⟨s, rfl, hs⟩ := fits_str (q 1 (by omega))
          exact ⟨(k, s) :: l, by rw [e1]; rfl⟩
    obtain ⟨l', e1⟩ := key l h1 (fun i j hi hj => h2 i j hi hj)
    exact ⟨l', by rw [e1]⟩
abbrev shTab : List Sh := [.str, .str, .sl [.str, .int .i64, .int .i64, .int .i64], .sl [.str, .bool], .bool, .sl [.bool, .str]]
theorem fits_table {l : List AV} (h : l.length = 6 ∧ ∀ j, j < 6 → Fits (shTab.getD j .bool) (l.getD j .unk)) : ∃ fn n fs ks u rs, l = tabC fn n fs ks u rs := by
  obtain ⟨h2, hf⟩ := h
  match l, h2, hf with
  | [a, b, c, d, e, f], _, hf =>
    obtain ⟨fn, rfl, _⟩ := fits_str (hf 0 (by omega))
    obtain ⟨n, rfl, _⟩ := fits_str (hf 1 (by omega))
    obtain ⟨fs, rfl, _, _⟩ := fits_fields (hf 2 (by omega))
    obtain ⟨ks, rfl⟩ := fits_keys (hf 3 (by omega))
    obtain ⟨u, rfl⟩ := fits_bool (hf 4 (by omega))
    obtain ⟨rs, rfl⟩ := fits_recs (hf 5 (by omega))
    exact ⟨fn, n, fs, ks, u, rs, rfl⟩
end Go.Bv
