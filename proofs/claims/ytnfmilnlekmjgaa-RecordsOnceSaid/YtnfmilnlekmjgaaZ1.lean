/- BY VALUE, chapter 26: awake. -/
import Derived.Test.YtnfmilnlekmjgaaW3d
import Derived.Test.YtnfmilnlekmjgaaR8
import Derived.Test.YtnfmilnlekmjgaaG8
import Derived.Test.YtnfmilnlekmjgaaG1
import Derived.Test.YtnfmilnlekmjgaaBvOpen
set_option linter.unusedSimpArgs false
set_option linter.unusedVariables false
namespace Go.Bv
attribute [local congr] ite_congr congr_bindOps congr_bindC congr_andThen congr_orNone congr_onBool congr_onEff congr_headC
set_option maxRecDepth 100000
set_option maxHeartbeats 40000000
def dig : AV := .agg [.str (bs [82]), .sl [[.str (bs [78]), .int .i64 2, .int .i64 1, .int .i64 0]]]
def fdN : Fd := ⟨bs [78], ⟨2, 1, 0⟩⟩
theorem enc7 : run T SN 82 [.agg [.int .i64 2, .int .i64 1, .int .i64 0], .agg [.int .i64 7, .str (bs [])]] = some (.tup [.str (bs [247]), .int .i64 0]) :=
  run_of (n := 12) (by kernel_rfl)
theorem dig_short : Short (bs [82]) [fdN] := ⟨by decide, by decide, by
  intro f hf
  simp only [List.mem_singleton] at hf
  subst hf
  decide⟩
theorem dig_right : (checkFormat (bs [82]) [fdN]).2 = 0 := by kernel_rfl
theorem rec7 : VSpec Go.Proofs.Try.prog 23 [dig, .sl [[.int .i64 7, .str (bs [])]]] (.tup [.str (bs [247]), .int .i64 0, .int .i64 0]) :=
  rec1 (bs [82]) fdN ⟨7, bs []⟩ (bs [247]) dig_short dig_right enc7 (by decide)
open Classical in
/-- RecordOf, told where it is asked: at the one format and value of awake. -/
noncomputable def S23 : RT := fun f xs => if f = 23 ∧ xs = [dig, .sl [[.int .i64 7, .str (bs [])]]] then some (.tup [.str (bs [247]), .int .i64 0, .int .i64 0]) else none
theorem S23_sound : VSound Go.Proofs.Try.prog S23 := by
  intro f xs r h
  unfold S23 at h
  split at h
  · rename_i hh
    obtain ⟨rfl, rfl⟩ := hh
    cases h
    exact ⟨rec7, by kernel_rfl⟩
  · cases h
theorem run23 : run T S23 23 [dig, .sl [[.int .i64 7, .str (bs [])]]] = some (.tup [.str (bs [247]), .int .i64 0, .int .i64 0]) :=
  run_ext rfl (by unfold S23; rw [if_pos ⟨rfl, rfl⟩])
theorem run72 : run T S23 72 [] = some dig := by
  (refine run_fn T72 ⟨rfl, by decide⟩ ?_; rw [start72])
  simp (config := {decide := true, contextual := true, maxSteps := 3000000}) only [F72, dig, List.replicate, ↓simPre, simPost, Bool.not_not, Bool.not_false, Bool.not_true, Bool.false_eq_true, reduceCtorEq, ↓reduceIte, decide_true, decide_false, splice, results, resT, resTs, AV.key, Bool.and_true, Bool.true_and, and_true, true_and, and_self, List.flatMap_nil, List.flatMap_cons, List.append_nil, List.nil_append, List.cons_append, List.map_cons, List.map_nil, List.all_cons, List.all_nil, List.length_cons, List.length_nil, Nat.reduceAdd, Nat.reduceLT, Nat.reduceLeDiff, Nat.reduceEqDiff, Nat.reduceSub, Nat.zero_add, Nat.add_zero, List.drop_succ_cons, List.drop_zero, List.take_succ_cons, List.take_zero]
theorem vals7 : valuesOf (bs [82]) [fdN] (bs [247]) = ([⟨7, bs []⟩], 0, 0) := by kernel_rfl
theorem run15 : run T S23 15 [] = some (.bool true) := by
  have h72 := run72
  have h23 := run23
  have h20 := run20 (S := S23) (bs [82]) [fdN] (bs [247]) dig_short (by decide)
  rw [vals7] at h20
  simp only [encVs, List.map_cons, List.map_nil, encF, encV, fdN] at h20
  simp only [dig] at h72 h23
  have b1 : ((bs [247]).toList == (bs [247]).toList) = true := by simp
  (refine run_fn T15 ⟨rfl, by decide⟩ ?_; rw [start15])
  simp (config := {decide := true, contextual := true, maxSteps := 3000000}) only [F15, h72, h23, h20, b1, List.getD_cons_zero, List.replicate, ↓simPre, simPost, Bool.not_not, Bool.not_false, Bool.not_true, Bool.false_eq_true, reduceCtorEq, ↓reduceIte, decide_true, decide_false, splice, results, resT, resTs, AV.key, Bool.and_true, Bool.true_and, and_true, true_and, and_self, List.flatMap_nil, List.flatMap_cons, List.append_nil, List.nil_append, List.cons_append, List.map_cons, List.map_nil, List.all_cons, List.all_nil, List.length_cons, List.length_nil, Nat.reduceAdd, Nat.reduceLT, Nat.reduceLeDiff, Nat.reduceEqDiff, Nat.reduceSub, Nat.zero_add, Nat.add_zero, List.drop_succ_cons, List.drop_zero, List.take_succ_cons, List.take_zero]
  rfl
end Go.Bv

/- BY VALUE, chapter 26: RecordsBytes gives true. -/
set_option linter.unusedSimpArgs false
set_option linter.unusedVariables false
namespace Go.Bv
attribute [local congr] ite_congr congr_bindOps congr_bindC congr_andThen congr_orNone congr_onBool congr_onEff congr_headC
set_option maxRecDepth 100000
set_option maxHeartbeats 40000000
theorem fits_str {A : AV} (h : Fits .str A) : ∃ s, A = .str s ∧ s.size ≤ maxLen := by
  cases h with
  | str s hs => exact ⟨s, rfl, hs⟩
theorem fits_i64 {A : AV} (h : Fits (.int .i64) A) : ∃ n, A = .int .i64 n := by
  cases h with
  | int k n hn => exact ⟨n, rfl⟩
theorem fits_bool {A : AV} (h : Fits .bool A) : ∃ b, A = .bool b := by
  cases h with
  | bool b => exact ⟨b, rfl⟩
/-- A slice of fields. -/
theorem fits_fields {A : AV} (h : Fits (.sl [.str, .int .i64, .int .i64, .int .i64]) A) : ∃ l : List Fd, A = .sl (l.map encF) ∧ l.length ≤ maxLen ∧ ∀ f ∈ l, f.name.size ≤ maxLen := by
  cases h with
  | sl ks l hl h1 h2 =>
    have key : ∀ m : List (List AV), (∀ i, i < m.length → (m.getD i []).length = 4) → (∀ i j, i < m.length → j < 4 → Fits (([.str, .int .i64, .int .i64, .int .i64] : List Sh).getD j .bool) ((m.getD i []).getD j .unk)) →
        ∃ l : List Fd, m = l.map encF ∧ l.length = m.length ∧ ∀ f ∈ l, f.name.size ≤ maxLen := by
      intro m
      induction m with
      | nil => intro _ _; exact ⟨[], rfl, rfl, by intro f hf; simp at hf⟩
      | cons x m ih =>
        intro h1 h2
        obtain ⟨l, e1, e2, e3⟩ := ih (fun i hi => by have := h1 (i + 1) (by simp; omega); simpa using this) (fun i j hi hj => by have := h2 (i + 1) j (by simp; omega) hj; simpa using this)
        have hx : x.length = 4 := by have := h1 0 (by simp); simpa using this
        have q := fun j hj => h2 0 j (by simp) hj
        match x, hx, q with
        | [a, b, c, d], _, q =>
          obtain ⟨s, rfl, hs⟩ := fits_str (q 0 (by omega))
          obtain ⟨k, rfl⟩ := fits_i64 (q 1 (by omega))
          obtain ⟨n, rfl⟩ := fits_i64 (q 2 (by omega))
          obtain ⟨u, rfl⟩ := fits_i64 (q 3 (by omega))
          refine ⟨⟨s, ⟨k, n, u⟩⟩ :: l, by rw [e1]; rfl, by simp [e2], ?_⟩
          intro f hf
          rcases List.mem_cons.1 hf with rfl | hf
          · exact hs
          · exact e3 f hf
    obtain ⟨l', e1, e2, e3⟩ := key l h1 (fun i j hi hj => h2 i j hi hj)
    exact ⟨l', by rw [e1], by omega, e3⟩
theorem fields_few {l : List Fd} (h : fieldsShort l = true) : ∀ f ∈ l, f.name.size ≤ 100 := by
  induction l with
  | nil => intro f hf; simp at hf
  | cons g l ih =>
    simp only [fieldsShort] at h
    split at h
    · cases h
    · rename_i hh
      intro f hf
      rcases List.mem_cons.1 hf with rfl | hf
      · simp at hh; omega
      · exact ih h f hf
theorem few_short {n : ByteArray} {l : List Fd} (h : fewFile (bs []) n l [] = true) : Short n l := by
  unfold fewFile at h
  split at h
  · cases h
  · rename_i hh
    simp only [Bool.or_eq_true, decide_eq_true_eq, not_or] at hh
    simp only [Bool.and_eq_true] at h
    have h1 := fields_few h.1
    refine ⟨by omega, by omega, fun f hf => ?_⟩
    have := h1 f hf
    omega
theorem bytesGo_zero (l : List Fd) (s : ByteArray) : ∀ k i, (bytesGo l s k i).2 = 0 → (bytesGo l s k i).1 = 0 := by
  intro k
  induction k with
  | zero => intro i _; rfl
  | succ k ih =>
    intro i h
    simp only [bytesGo] at h ⊢
    split
    · rename_i hh; rw [if_pos hh] at h; simp only at h; rw [h] at hh; simp at hh
    · rename_i hh; rw [if_neg hh] at h; exact ih (i + 1) h
theorem bytesErr_zero (name : ByteArray) (l : List Fd) (s : ByteArray) (h : (bytesErr name l s).2 = 0) : (bytesErr name l s).1 = 0 ∧ (checkFormat name l).2 = 0 ∧ (s.size : Int) = sizes l := by
  unfold bytesErr at h ⊢
  split at h
  · rename_i hh; simp only at h; rw [h] at hh; simp at hh
  · rename_i hh
    split at h
    · cases h
    · rename_i h2
      rw [if_neg hh, if_neg h2]
      exact ⟨bytesGo_zero l s _ _ h, by simpa using hh, by simpa using h2⟩
/-- The statement's function gives true. -/
theorem run3 (name : ByteArray) (l : List Fd) (s : ByteArray) : run T S23 3 [.agg [.str name, .sl (l.map encF)], .str s] = some (.bool true) := by
  have h15 := run15
  have h16 := run16 (S := S23) name l
  by_cases hfew : fewFile (bs []) name l [] = true
  · rw [hfew] at h16
    have hsh := few_short hfew
    have hll := hsh.2.1
    by_cases h700 : (s.size : Int) > 700
    · have d7 : decide ((s.size : Int) > 700) = true := by simpa using h700
      (refine run_fn T3 ⟨rfl, by decide⟩ ?_; rw [start3])
      simp (config := {decide := true, contextual := true, maxSteps := 3000000}) only [F3, h15, h16, d7, List.replicate, ↓simPre, simPost, Bool.not_not, Bool.not_false, Bool.not_true, Bool.false_eq_true, reduceCtorEq, ↓reduceIte, decide_true, decide_false, splice, results, resT, resTs, AV.key, Bool.and_true, Bool.true_and, and_true, true_and, and_self, List.flatMap_nil, List.flatMap_cons, List.append_nil, List.nil_append, List.cons_append, List.map_cons, List.map_nil, List.all_cons, List.all_nil, List.length_cons, List.length_nil, Nat.reduceAdd, Nat.reduceLT, Nat.reduceLeDiff, Nat.reduceEqDiff, Nat.reduceSub, Nat.zero_add, Nat.add_zero, List.drop_succ_cons, List.drop_zero, List.take_succ_cons, List.take_zero]
    · have d7 : decide ((s.size : Int) > 700) = false := by simpa using h700
      have h18 := run18 (S := S23) name l (by omega)
      have h17 := run17 (S := S23) name l s hsh (by omega)
      have h19 := run19 (S := S23) name l s hsh (by omega)
      have h20 := run20 (S := S23) name l s hsh (by omega)
      by_cases hc : (bytesErr name l s).2 = 0
      · obtain ⟨z1, z2, z3⟩ := bytesErr_zero name l s hc
        obtain ⟨hr, hl1, hl20⟩ := check_right name l z2
        have h22 := run22 (S := S23) name l s (by omega) hr z3 (by omega) hl1
        have hv : valuesOf name l s = (vals l s l.length, 0, 0) := by rw [valuesOf_eq, hc]; rfl
        have h21 := run21 (S := S23) (vals l s l.length) (vals l s l.length) (by simp [vals]; omega)
        have hm : ((List.range l.length).map fun i => encV (valAt l s i).1) = (vals l s l.length).map encV := by simp [vals]
        rw [hv] at h17 h20
        rw [hc, z1] at h19
        rw [hm] at h22
        have b0 : (((vals l s l.length).length : Int) != ((vals l s l.length).length : Int)) = false := by simp
        rw [b0, valsEq_refl] at h21
        simp only [encVs] at h20
        (refine run_fn T3 ⟨rfl, by decide⟩ ?_; rw [start3])
        simp (config := {decide := true, contextual := true, maxSteps := 3000000}) only [F3, h15, h16, d7, h18, h17, h19, h20, h22, h21, List.replicate, ↓simPre, simPost, Bool.not_not, Bool.not_false, Bool.not_true, Bool.false_eq_true, reduceCtorEq, ↓reduceIte, decide_true, decide_false, splice, results, resT, resTs, AV.key, Bool.and_true, Bool.true_and, and_true, true_and, and_self, List.flatMap_nil, List.flatMap_cons, List.append_nil, List.nil_append, List.cons_append, List.map_cons, List.map_nil, List.all_cons, List.all_nil, List.length_cons, List.length_nil, Nat.reduceAdd, Nat.reduceLT, Nat.reduceLeDiff, Nat.reduceEqDiff, Nat.reduceSub, Nat.zero_add, Nat.add_zero, List.drop_succ_cons, List.drop_zero, List.take_succ_cons, List.take_zero]
      · have hcb : ((bytesErr name l s).2 != 0) = true := by simpa using hc
        have hv : valuesOf name l s = ([], bytesErr name l s) := by rw [valuesOf_eq, if_pos hcb]
        rw [hv] at h17 h20
        simp only [encVs, List.map_nil] at h20
        have e1 : ∀ x : Int, (x != x) = false := fun x => by simp
        have e2 : ∀ x : Int, (x == x) = true := fun x => by simp
        (refine run_fn T3 ⟨rfl, by decide⟩ ?_; rw [start3])
        simp (config := {decide := true, contextual := true, maxSteps := 3000000}) only [F3, h15, h16, d7, h18, h17, h19, h20, hcb, e1, e2, List.replicate, ↓simPre, simPost, Bool.not_not, Bool.not_false, Bool.not_true, Bool.false_eq_true, reduceCtorEq, ↓reduceIte, decide_true, decide_false, splice, results, resT, resTs, AV.key, Bool.and_true, Bool.true_and, and_true, true_and, and_self, List.flatMap_nil, List.flatMap_cons, List.append_nil, List.nil_append, List.cons_append, List.map_cons, List.map_nil, List.all_cons, List.all_nil, List.length_cons, List.length_nil, Nat.reduceAdd, Nat.reduceLT, Nat.reduceLeDiff, Nat.reduceEqDiff, Nat.reduceSub, Nat.zero_add, Nat.add_zero, List.drop_succ_cons, List.drop_zero, List.take_succ_cons, List.take_zero]
  · have hfew' : fewFile (bs []) name l [] = false := by simpa using hfew
    rw [hfew'] at h16
    (refine run_fn T3 ⟨rfl, by decide⟩ ?_; rw [start3])
    simp (config := {decide := true, contextual := true, maxSteps := 3000000}) only [F3, h15, h16, List.replicate, ↓simPre, simPost, Bool.not_not, Bool.not_false, Bool.not_true, Bool.false_eq_true, reduceCtorEq, ↓reduceIte, decide_true, decide_false, splice, results, resT, resTs, AV.key, Bool.and_true, Bool.true_and, and_true, true_and, and_self, List.flatMap_nil, List.flatMap_cons, List.append_nil, List.nil_append, List.cons_append, List.map_cons, List.map_nil, List.all_cons, List.all_nil, List.length_cons, List.length_nil, Nat.reduceAdd, Nat.reduceLT, Nat.reduceLeDiff, Nat.reduceEqDiff, Nat.reduceSub, Nat.zero_add, Nat.add_zero, List.drop_succ_cons, List.drop_zero, List.take_succ_cons, List.take_zero]
/-- What the statement's function gives at every argument. -/
theorem walk3 : ∀ (l : List AV) (s : ByteArray), (l.length = 2 ∧ ∀ j, j < 2 → Fits (([.str, .sl [.str, .int .i64, .int .i64, .int .i64]] : List Sh).getD j .bool) (l.getD j .unk)) → s.size ≤ maxLen →
    VSpec Go.Proofs.Try.prog 3 [.agg l, .str s] (.bool true) := by
  intro l s ⟨h2, hf⟩ _
  match l, h2, hf with
  | [a, b], _, hf =>
    obtain ⟨n, rfl, _⟩ := fits_str (hf 0 (by omega))
    obtain ⟨fs, rfl, _, _⟩ := fits_fields (hf 1 (by omega))
    exact (run_sound mixed T_ok S23_sound 3 _ _ (run3 n fs s)).1
end Go.Bv
