/- BY VALUE, chapter 26: what the laws take for told: RecordOf at awake's value, CheckFile. RecordsFormats gives true. -/
import Derived.Test.YtnfmilnlekmjgaaZ1
import Derived.Test.YtnfmilnlekmjgaaZ1
import Derived.Test.YtnfmilnlekmjgaaW4c
import Derived.Test.YtnfmilnlekmjgaaQ1
import Derived.Test.YtnfmilnlekmjgaaR8
set_option linter.unusedSimpArgs false
set_option linter.unusedVariables false
namespace Go.Bv
attribute [local congr] ite_congr congr_bindOps congr_bindC congr_andThen congr_orNone congr_onBool congr_onEff congr_headC
set_option maxRecDepth 100000
set_option maxHeartbeats 40000000
def fdOf : List AV → Fd
  | [.str a, .int _ k, .int _ l, .int _ s] => ⟨a, ⟨k, l, s⟩⟩
  | _ => default
def kOf : List AV → ByteArray × Bool
  | [.str a, .bool b] => (a, b)
  | _ => (bs [], false)
theorem fdOf_enc (l : List Fd) : (l.map encF).map fdOf = l := by
  induction l with
  | nil => rfl
  | cons f l ih => simp only [List.map_cons, ih]; rfl
theorem kOf_enc (l : List (ByteArray × Bool)) : (l.map encK).map kOf = l := by
  induction l with
  | nil => rfl
  | cons f l ih => simp only [List.map_cons, ih]; rfl
/-- CheckFile, told by its contract. -/
def file28 : List AV → Option (ByteArray × ByteArray × List (List AV) × List (List AV) × Bool)
  | [.agg [.str fn, .str n, .sl l, .sl ks, .bool u]] => some (fn, n, l, ks, u)
  | _ => none
open Classical in
noncomputable def S28 : RT := fun f xs => if f = 28 then (match file28 xs with
  | some (fn, n, l, ks, _) => if (l = (l.map fdOf).map encF ∧ ks = (ks.map kOf).map encK) ∧ fn.size ≤ 1000000 ∧ Short n (l.map fdOf) ∧ ks.length ≤ 1000 then
      some (.tup [.int .i64 (checkFile fn n (l.map fdOf) (ks.map kOf)).1, .int .i64 (checkFile fn n (l.map fdOf) (ks.map kOf)).2]) else none
  | none => none) else none
theorem file28_eq {xs : List AV} {fn n : ByteArray} {l ks : List (List AV)} {u : Bool} (h : file28 xs = some (fn, n, l, ks, u)) : xs = [.agg [.str fn, .str n, .sl l, .sl ks, .bool u]] := by
  unfold file28 at h
  split at h
  · simp only [Option.some.injEq, Prod.mk.injEq] at h
    obtain ⟨rfl, rfl, rfl, rfl, rfl⟩ := h
    rfl
  · cases h
theorem S28_sound : VSound Go.Proofs.Try.prog S28 := by
  intro f xs r h
  unfold S28 at h
  by_cases hf : f = 28
  · rw [if_pos hf] at h
    cases hx : file28 xs with
    | none => simp [hx] at h
    | some q =>
      obtain ⟨fn, n, l, ks, u⟩ := q
      simp only [hx] at h
      have hxs := file28_eq hx
      split at h
      · rename_i hh
        obtain ⟨⟨e1, e2⟩, h2, h3, h4⟩ := hh
        cases h
        have := checkFile_ok fn n (l.map fdOf) (ks.map kOf) u h2 h3 (by simp; omega)
        simp only [fileC] at this
        rw [← e1, ← e2] at this
        rw [hf, hxs]
        exact ⟨this, by kernel_rfl⟩
      · cases h
  · rw [if_neg hf] at h; cases h
open Classical in
noncomputable def S26 : RT := fun f xs => match S23 f xs with
  | some r => some r
  | none => S28 f xs
theorem S26_sound : VSound Go.Proofs.Try.prog S26 := by
  intro f xs r h
  unfold S26 at h
  cases h1 : S23 f xs with
  | some q =>
    simp only [h1, Option.some.injEq] at h
    rw [← h]
    exact S23_sound f xs q h1
  | none => simp only [h1] at h; exact S28_sound f xs r h
theorem run28 (fn n : ByteArray) (l : List Fd) (ks : List (ByteArray × Bool)) (u : Bool) (hn : fn.size ≤ 1000000) (hsh : Short n l) (hk : ks.length ≤ 1000) :
    run T S26 28 [.agg (fileC fn n l ks u)] = some (.tup [.int .i64 (checkFile fn n l ks).1, .int .i64 (checkFile fn n l ks).2]) := by
  refine run_ext rfl ?_
  have h23 : S23 28 [.agg (fileC fn n l ks u)] = none := by
    unfold S23
    rw [if_neg (fun h => by have := h.1; omega)]
  unfold S26
  simp only [h23]
  unfold S28
  rw [if_pos rfl]
  simp only [file28, fileC]
  have e1 := fdOf_enc l
  have e2 := kOf_enc ks
  rw [e1, e2, if_pos ⟨⟨rfl, rfl⟩, hn, hsh, by simpa using hk⟩]
theorem run15' : run T S26 15 [] = some (.bool true) := by
  have h72 : run T S26 72 [] = some dig := by
    (refine run_fn T72 ⟨rfl, by decide⟩ ?_; rw [start72])
    simp (config := {decide := true, contextual := true, maxSteps := 3000000}) only [F72, dig, List.replicate, ↓simPre, simPost, Bool.not_not, Bool.not_false, Bool.not_true, Bool.false_eq_true, reduceCtorEq, ↓reduceIte, decide_true, decide_false, splice, results, resT, resTs, AV.key, Bool.and_true, Bool.true_and, and_true, true_and, and_self, List.flatMap_nil, List.flatMap_cons, List.append_nil, List.nil_append, List.cons_append, List.map_cons, List.map_nil, List.all_cons, List.all_nil, List.length_cons, List.length_nil, Nat.reduceAdd, Nat.reduceLT, Nat.reduceLeDiff, Nat.reduceEqDiff, Nat.reduceSub, Nat.zero_add, Nat.add_zero, List.drop_succ_cons, List.drop_zero, List.take_succ_cons, List.take_zero]
  have h23 : run T S26 23 [dig, .sl [[.int .i64 7, .str (bs [])]]] = some (.tup [.str (bs [247]), .int .i64 0, .int .i64 0]) := by
    refine run_ext rfl ?_
    have : S23 23 [dig, .sl [[.int .i64 7, .str (bs [])]]] = some (.tup [.str (bs [247]), .int .i64 0, .int .i64 0]) := by unfold S23; rw [if_pos ⟨rfl, rfl⟩]
    unfold S26
    simp only [this]
  have h20 := run20 (S := S26) (bs [82]) [fdN] (bs [247]) dig_short (by decide)
  rw [vals7] at h20
  simp only [encVs, List.map_cons, List.map_nil, encF, encV, fdN] at h20
  simp only [dig] at h72 h23
  have b1 : ((bs [247]).toList == (bs [247]).toList) = true := by simp
  (refine run_fn T15 ⟨rfl, by decide⟩ ?_; rw [start15])
  simp (config := {decide := true, contextual := true, maxSteps := 3000000}) only [F15, h72, h23, h20, b1, List.getD_cons_zero, List.replicate, ↓simPre, simPost, Bool.not_not, Bool.not_false, Bool.not_true, Bool.false_eq_true, reduceCtorEq, ↓reduceIte, decide_true, decide_false, splice, results, resT, resTs, AV.key, Bool.and_true, Bool.true_and, and_true, true_and, and_self, List.flatMap_nil, List.flatMap_cons, List.append_nil, List.nil_append, List.cons_append, List.map_cons, List.map_nil, List.all_cons, List.all_nil, List.length_cons, List.length_nil, Nat.reduceAdd, Nat.reduceLT, Nat.reduceLeDiff, Nat.reduceEqDiff, Nat.reduceSub, Nat.zero_add, Nat.add_zero, List.drop_succ_cons, List.drop_zero, List.take_succ_cons, List.take_zero]
  rfl
theorem keys_few {l : List (ByteArray × Bool)} (h : keyShort l = true) : ∀ k ∈ l, k.1.size ≤ 100 := by
  induction l with
  | nil => intro f hf; simp at hf
  | cons g l ih =>
    simp only [keyShort] at h
    split at h
    · cases h
    · rename_i hh
      intro f hf
      rcases List.mem_cons.1 hf with rfl | hf
      · simp at hh; omega
      · exact ih h f hf
theorem few_file {fn n : ByteArray} {l : List Fd} {ks : List (ByteArray × Bool)} (h : fewFile fn n l ks = true) : fn.size ≤ 100 ∧ Short n l ∧ ks.length ≤ 40 := by
  unfold fewFile at h
  split at h
  · cases h
  · rename_i hh
    simp only [Bool.or_eq_true, decide_eq_true_eq, not_or] at hh
    simp only [Bool.and_eq_true] at h
    have h1 := fields_few h.1
    refine ⟨by omega, ⟨by omega, by omega, fun f hf => ?_⟩, by omega⟩
    have := h1 f hf
    omega
/-- The statement's function gives true. -/
theorem run5 (fn n : ByteArray) (l : List Fd) (ks : List (ByteArray × Bool)) (u : Bool) (nm : ByteArray) : run T S26 5 [.agg (fileC fn n l ks u), .str nm] = some (.bool true) := by
  have h15 := run15'
  have h25 := run25 (S := S26) fn n l ks u
  simp only [fileC]
  by_cases hfew : fewFile fn n l ks = true
  · rw [hfew] at h25
    obtain ⟨hfn, hsh, hks⟩ := few_file hfew
    have hll := hsh.2.1
    by_cases h100 : (nm.size : Int) > 100
    · have d7 : decide ((nm.size : Int) > 100) = true := by simpa using h100
      (refine run_fn T5 ⟨rfl, by decide⟩ ?_; rw [start5])
      simp (config := {decide := true, contextual := true, maxSteps := 3000000}) only [F5, h15, h25, d7, List.replicate, ↓simPre, simPost, Bool.not_not, Bool.not_false, Bool.not_true, Bool.false_eq_true, reduceCtorEq, ↓reduceIte, decide_true, decide_false, splice, results, resT, resTs, AV.key, Bool.and_true, Bool.true_and, and_true, true_and, and_self, List.flatMap_nil, List.flatMap_cons, List.append_nil, List.nil_append, List.cons_append, List.map_cons, List.map_nil, List.all_cons, List.all_nil, List.length_cons, List.length_nil, Nat.reduceAdd, Nat.reduceLT, Nat.reduceLeDiff, Nat.reduceEqDiff, Nat.reduceSub, Nat.zero_add, Nat.add_zero, List.drop_succ_cons, List.drop_zero, List.take_succ_cons, List.take_zero]
    · have d7 : decide ((nm.size : Int) > 100) = false := by simpa using h100
      have h18 := run18 (S := S26) n l (by omega)
      have h26 := run26 (S := S26) n l hsh.1 hll hsh.2.2
      have h27 := run27 (S := S26) n l hsh
      have h28 := run28 fn n l ks u (by omega) hsh (by omega)
      have h29 := run29 (S := S26) fn n l ks u (by omega) (by omega)
      have h30 := run30 (S := S26) fn n l ks u (by omega) hsh (by omega)
      have h31 := run31 (S := S26) n l hsh
      have h32 := run32 (S := S26) n l nm hsh
      have h34 := run34 (S := S26) n nm l (by omega)
      simp only [fileC] at h28 h29 h30
      have e1 : ∀ x : Int, (x != x) = false := fun x => by simp
      have e2 : ∀ x : Int, (x == x) = true := fun x => by simp
      by_cases hc : (checkFormat n l).2 = 0
      · have hcb : ((checkFormat n l).2 != 0) = false := by simpa using hc
        obtain ⟨hr, hl1, hl20⟩ := check_right n l hc
        have h33 := run33 (S := S26) n l (by omega) hr
        rw [hcb] at h31
        simp only [Bool.false_eq_true, if_false] at h31
        cases ha : l.any (fun f => f.name.toList == nm.toList) with
        | false =>
          have hf := (at_none l nm 0 0 ha).2
          rw [hf] at h34
          have ho : offsetOf n l nm = (0, ⟨0, 0, 0⟩, 11) := by unfold offsetOf; rw [hcb, ha]; rfl
          rw [ho] at h32
          simp only [tyAV, encT] at h32
          (refine run_fn T5 ⟨rfl, by decide⟩ ?_; rw [start5])
          simp (config := {decide := true, contextual := true, maxSteps := 3000000}) only [F5, h15, h25, d7, h18, h26, h27, h28, h29, h30, h31, h32, h33, h34, hcb, e1, e2, List.replicate, ↓simPre, simPost, Bool.not_not, Bool.not_false, Bool.not_true, Bool.false_eq_true, reduceCtorEq, ↓reduceIte, decide_true, decide_false, splice, results, resT, resTs, AV.key, Bool.and_true, Bool.true_and, and_true, true_and, and_self, List.flatMap_nil, List.flatMap_cons, List.append_nil, List.nil_append, List.cons_append, List.map_cons, List.map_nil, List.all_cons, List.all_nil, List.length_cons, List.length_nil, Nat.reduceAdd, Nat.reduceLT, Nat.reduceLeDiff, Nat.reduceEqDiff, Nat.reduceSub, Nat.zero_add, Nat.add_zero, List.drop_succ_cons, List.drop_zero, List.take_succ_cons, List.take_zero]
        | true =>
          rcases fieldAt_range l nm 0 with ⟨_, h2⟩ | ⟨r1, r2, _⟩
          · rw [h2] at ha; cases ha
          have hcast : fieldAt l nm 0 = ((fieldAt l nm 0).toNat : Int) := by omega
          have h35 := run35 (S := S26) n l (fieldAt l nm 0).toNat (by omega) hr (by omega)
          have hni : (((fieldAt l nm 0).toNat : Int) == -1) = false := by simp; omega
          have ho : offsetOf n l nm = (sizes (l.take (fieldAt l nm 0).toNat), (l.getD (fieldAt l nm 0).toNat default).t, 0) := by unfold offsetOf; rw [hcb, ha]; rfl
          rw [ho] at h32
          rw [hcast] at h34
          obtain ⟨h1, h2, h4, h5⟩ := idx (i := (fieldAt l nm 0).toNat) (n := l.length) (by omega) (by omega)
          have h3 := map_get encF l (fieldAt l nm 0).toNat default (by omega)
          simp only [encF] at h3
          simp only [tyAV, encT] at h32
          generalize (fieldAt l nm 0).toNat = i at *
          (refine run_fn T5 ⟨rfl, by decide⟩ ?_; rw [start5])
          simp (config := {decide := true, contextual := true, maxSteps := 3000000}) only [F5, h15, h25, d7, h18, h26, h27, h28, h29, h30, h31, h32, h33, h34, h35, hcb, hni, h1, h2, h3, h4, e1, e2, List.length_map, List.replicate, ↓simPre, simPost, Bool.not_not, Bool.not_false, Bool.not_true, Bool.false_eq_true, reduceCtorEq, ↓reduceIte, decide_true, decide_false, splice, results, resT, resTs, AV.key, Bool.and_true, Bool.true_and, and_true, true_and, and_self, List.flatMap_nil, List.flatMap_cons, List.append_nil, List.nil_append, List.cons_append, List.map_cons, List.map_nil, List.all_cons, List.all_nil, List.length_cons, List.length_nil, Nat.reduceAdd, Nat.reduceLT, Nat.reduceLeDiff, Nat.reduceEqDiff, Nat.reduceSub, Nat.zero_add, Nat.add_zero, List.drop_succ_cons, List.drop_zero, List.take_succ_cons, List.take_zero]
      · have hcb : ((checkFormat n l).2 != 0) = true := by simpa using hc
        have ho : offsetOf n l nm = (0, ⟨0, 0, 0⟩, (checkFormat n l).2) := by unfold offsetOf; rw [hcb]; rfl
        rw [ho] at h32
        rw [hcb] at h31
        simp only [if_true] at h31
        simp only [tyAV, encT] at h32
        (refine run_fn T5 ⟨rfl, by decide⟩ ?_; rw [start5])
        simp (config := {decide := true, contextual := true, maxSteps := 3000000}) only [F5, h15, h25, d7, h18, h26, h27, h28, h29, h30, h31, h32, hcb, e1, e2, List.replicate, ↓simPre, simPost, Bool.not_not, Bool.not_false, Bool.not_true, Bool.false_eq_true, reduceCtorEq, ↓reduceIte, decide_true, decide_false, splice, results, resT, resTs, AV.key, Bool.and_true, Bool.true_and, and_true, true_and, and_self, List.flatMap_nil, List.flatMap_cons, List.append_nil, List.nil_append, List.cons_append, List.map_cons, List.map_nil, List.all_cons, List.all_nil, List.length_cons, List.length_nil, Nat.reduceAdd, Nat.reduceLT, Nat.reduceLeDiff, Nat.reduceEqDiff, Nat.reduceSub, Nat.zero_add, Nat.add_zero, List.drop_succ_cons, List.drop_zero, List.take_succ_cons, List.take_zero]
  · have hfew' : fewFile fn n l ks = false := by simpa using hfew
    rw [hfew'] at h25
    (refine run_fn T5 ⟨rfl, by decide⟩ ?_; rw [start5])
    simp (config := {decide := true, contextual := true, maxSteps := 3000000}) only [F5, h15, h25, List.replicate, ↓simPre, simPost, Bool.not_not, Bool.not_false, Bool.not_true, Bool.false_eq_true, reduceCtorEq, ↓reduceIte, decide_true, decide_false, splice, results, resT, resTs, AV.key, Bool.and_true, Bool.true_and, and_true, true_and, and_self, List.flatMap_nil, List.flatMap_cons, List.append_nil, List.nil_append, List.cons_append, List.map_cons, List.map_nil, List.all_cons, List.all_nil, List.length_cons, List.length_nil, Nat.reduceAdd, Nat.reduceLT, Nat.reduceLeDiff, Nat.reduceEqDiff, Nat.reduceSub, Nat.zero_add, Nat.add_zero, List.drop_succ_cons, List.drop_zero, List.take_succ_cons, List.take_zero]
/-- A slice of keys. -/
theorem fits_keys {A : AV} (h : Fits (.sl [.str, .bool]) A) : ∃ l : List (ByteArray × Bool), A = .sl (l.map encK) := by
  cases h with
  | sl ks l hl h1 h2 =>
    have key : ∀ m : List (List AV), (∀ i, i < m.length → (m.getD i []).length = 2) → (∀ i j, i < m.length → j < 2 → Fits (([.str, .bool] : List Sh).getD j .bool) ((m.getD i []).getD j .unk)) →
        ∃ l : List (ByteArray × Bool), m = l.map encK := by
      intro m
      induction m with
      | nil => intro _ _; exact ⟨[], rfl⟩
      | cons x m ih =>
        intro h1 h2
        obtain ⟨l, e1⟩ := ih (fun i hi => by have := h1 (i + 1) (by simp; omega); simpa using this) (fun i j hi hj => by have := h2 (i + 1) j (by simp; omega) hj; simpa using this)
        have hx : x.length = 2 := by have := h1 0 (by simp); simpa using this
        have q := fun j hj => h2 0 j (by simp) hj
        match x, hx, q with
        | [a, b], _, q =>
          obtain ⟨s, rfl, hs⟩ := fits_str (q 0 (by omega))
          obtain ⟨k, rfl⟩ := fits_bool (q 1 (by omega))
          exact ⟨(s, k) :: l, by rw [e1]; rfl⟩
    obtain ⟨l', e1⟩ := key l h1 (fun i j hi hj => h2 i j hi hj)
    exact ⟨l', by rw [e1]⟩
theorem walk5 : ∀ (l : List AV) (s : ByteArray), (l.length = 5 ∧ ∀ j, j < 5 → Fits (([.str, .str, .sl [.str, .int .i64, .int .i64, .int .i64], .sl [.str, .bool], .bool] : List Sh).getD j .bool) (l.getD j .unk)) → s.size ≤ maxLen →
    VSpec Go.Proofs.Try.prog 5 [.agg l, .str s] (.bool true) := by
  intro l s ⟨h2, hf⟩ _
  match l, h2, hf with
  | [a, b, c, d, e], _, hf =>
    obtain ⟨fn, rfl, _⟩ := fits_str (hf 0 (by omega))
    obtain ⟨n, rfl, _⟩ := fits_str (hf 1 (by omega))
    obtain ⟨fs, rfl, _, _⟩ := fits_fields (hf 2 (by omega))
    obtain ⟨ks, rfl⟩ := fits_keys (hf 3 (by omega))
    obtain ⟨u, rfl⟩ := fits_bool (hf 4 (by omega))
    exact (run_sound mixed T_ok S26_sound 5 _ _ (run5 fn n fs ks u s)).1
end Go.Bv
