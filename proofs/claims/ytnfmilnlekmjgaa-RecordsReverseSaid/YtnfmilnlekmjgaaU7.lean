/- BY VALUE, chapter 26, the plain law: changes of different records may be made in either order. -/
import Derived.Test.YtnfmilnlekmjgaaU6
set_option linter.unusedSimpArgs false
set_option linter.unusedVariables false
namespace Go.Bv
def recOf (c : Ch) : Bool × ByteArray := (c.kind == 2, c.after)
theorem recsGo_zero (n : ByteArray) (l : List Fd) : ∀ (rs : List (Bool × ByteArray)) (i : Int), (recsGo n l rs i).2 = 0 ↔ ∀ r ∈ rs, recErr n l r = 0
  | [], i => by simp [recsGo]
  | r :: rs, i => by
    simp only [recsGo]
    by_cases h : recErr n l r = 0
    · rw [if_neg (by simpa using h), recsGo_zero n l rs (i + 1)]
      simp [h]
    · rw [if_pos (by simpa using h)]
      simp [h]
theorem check_zero {fn n : ByteArray} {l : List Fd} {ks : List (ByteArray × Bool)} {rs : List (Bool × ByteArray)} : (checkTable fn n l ks rs).2 = 0 ↔ tabE fn n l ks rs = 0 ∧ ∀ r ∈ rs, recErr n l r = 0 := by
  unfold checkTable
  by_cases h : tabE fn n l ks rs = 0
  · rw [if_neg (by simpa using h), recsGo_zero]
    simp [h]
  · rw [if_pos (by simpa using h)]
    simp [h]
theorem tabE_len {fn n : ByteArray} {l : List Fd} {ks : List (ByteArray × Bool)} {rs rs' : List (Bool × ByteArray)} (h : rs'.length = rs.length) : tabE fn n l ks rs' = tabE fn n l ks rs := by
  unfold tabE; rw [h]
theorem headE_len {E : Int} {fn : ByteArray} {rs rs' : List (Bool × ByteArray)} {c : Ch} (h : rs'.length = rs.length) : headE E fn rs' c = headE E fn rs c := by
  unfold headE; rw [h]
theorem change_zero {E : Int} {fn n : ByteArray} {l : List Fd} {rs : List (Bool × ByteArray)} {c : Ch} (h : changeE E fn n l rs c = 0) : headE E fn rs c = 0 ∧ placeErr rs c = 0 ∧ (c.kind ≠ 2 → (bytesErr n l c.after).2 = 0) := by
  unfold changeE at h
  by_cases h1 : headE E fn rs c = 0
  · rw [if_neg (by simpa using h1)] at h
    by_cases h2 : (placeErr rs c != 0 || c.kind == 2) = true
    · rw [if_pos h2] at h
      simp only [h, bne_self_eq_false, Bool.false_or, beq_iff_eq] at h2
      exact ⟨h1, h, fun hk => absurd h2 hk⟩
    · rw [if_neg h2] at h
      simp only [Bool.or_eq_true, bne_iff_ne, ne_eq, beq_iff_eq, not_or, Decidable.not_not] at h2
      exact ⟨h1, h2.1, fun _ => h⟩
  · rw [if_pos (by simpa using h1)] at h
    exact absurd h h1
theorem change_of {E : Int} {fn n : ByteArray} {l : List Fd} {rs : List (Bool × ByteArray)} {c : Ch} (h1 : headE E fn rs c = 0) (h2 : placeErr rs c = 0) (h3 : c.kind ≠ 2 → (bytesErr n l c.after).2 = 0) : changeE E fn n l rs c = 0 := by
  unfold changeE
  rw [if_neg (by simpa using h1)]
  by_cases hk : c.kind = 2
  · rw [if_pos (by simp [hk])]; exact h2
  · rw [if_neg (by simp [hk, h2])]; exact h3 hk
theorem rec_zero {E : Int} {fn n : ByteArray} {l : List Fd} {rs : List (Bool × ByteArray)} {c : Ch} (h : changeE E fn n l rs c = 0) : recErr n l (recOf c) = 0 := by
  obtain ⟨h1, h2, h3⟩ := change_zero h
  have hf : formE c = false := cond_zero' (by decide) (first_zero' _ h1 (cond (formE c) 5) (by simp))
  unfold recErr recOf
  by_cases hk : c.kind = 2
  · have hb : (c.kind == 2) = true := by simpa using hk
    unfold formE at hf
    simp only [hb, Bool.true_and, Bool.or_eq_false_iff] at hf
    simp only [hb, Bool.not_true]
    rw [if_neg (by simp), hf.2]
    rfl
  · have hb : (c.kind == 2) = false := by simpa using hk
    simp only [hb, Bool.not_false, if_true]
    exact h3 hk
theorem put_len {rs : List (Bool × ByteArray)} {i : Int} {r : Bool × ByteArray} (h : i ≤ (rs.length : Int)) : (put rs i r).length = rs.length := by
  unfold put; rw [if_neg (by omega)]; simp
theorem putAt_get {rs : List (Bool × ByteArray)} {i j : Int} {r : Bool × ByteArray} (hi : i ≤ (rs.length : Int)) (h1 : 1 ≤ i) (h2 : 1 ≤ j) (hne : i ≠ j) : (put rs i r).getD (j - 1).toNat (false, bs []) = rs.getD (j - 1).toNat (false, bs []) := by
  unfold put; rw [if_neg (by omega)]
  rw [List.getD_eq_getElem?_getD, List.getElem?_set_ne (by omega), ← List.getD_eq_getElem?_getD]
theorem put_comm {rs : List (Bool × ByteArray)} {i j : Int} {r s : Bool × ByteArray} (hi : i ≤ (rs.length : Int)) (hj : j ≤ (rs.length : Int)) (h1 : 1 ≤ i) (h2 : 1 ≤ j) (hne : i ≠ j) : put (put rs i r) j s = put (put rs j s) i r := by
  have e1 : put rs i r = rs.set (i - 1).toNat r := by unfold put; rw [if_neg (by omega)]
  have e2 : put rs j s = rs.set (j - 1).toNat s := by unfold put; rw [if_neg (by omega)]
  rw [e1, e2]
  unfold put
  rw [if_neg (by simp; omega), if_neg (by simp; omega), List.set_comm _ _ (by omega)]
theorem put_mem {rs : List (Bool × ByteArray)} {i : Int} {r x : Bool × ByteArray} (h : x ∈ put rs i r) : x ∈ rs ∨ x = r := by
  unfold put at h
  split at h
  · rcases List.mem_append.1 h with h | h
    · exact .inl h
    · exact .inr (by simpa using h)
  · exact List.mem_or_eq_of_mem_set h
/-- What is right for a record is right for it where another one was changed. -/
theorem change_apart {fn n : ByteArray} {l : List Fd} {ks : List (ByteArray × Bool)} {rs : List (Bool × ByteArray)} {a b : Ch} (hne : a.rrn ≠ b.rrn) (ha : a.rrn ≤ (rs.length : Int)) (hb : b.rrn ≤ (rs.length : Int))
    (h1 : changeE (checkTable fn n l ks rs).2 fn n l rs a = 0) (h2 : changeE (checkTable fn n l ks rs).2 fn n l rs b = 0) :
    changeE (checkTable fn n l ks (put rs a.rrn (recOf a))).2 fn n l (put rs a.rrn (recOf a)) b = 0 := by
  have hl := put_len (r := recOf a) ha
  obtain ⟨a1, a2, a3⟩ := change_zero h1
  obtain ⟨b1, b2, b3⟩ := change_zero h2
  obtain ⟨e0, pa, _, _⟩ := head_place a1
  obtain ⟨_, pb, _, _⟩ := head_place b1
  have hc := check_zero.1 e0
  have hc' : (checkTable fn n l ks (put rs a.rrn (recOf a))).2 = 0 := by
    refine check_zero.2 ⟨by rw [tabE_len hl]; exact hc.1, fun r hr => ?_⟩
    rcases put_mem hr with hr | rfl
    · exact hc.2 r hr
    · exact rec_zero h1
  rw [hc']
  rw [e0] at b1
  refine change_of (by rw [headE_len hl]; exact b1) ?_ b3
  rw [← b2]
  unfold placeErr isDel
  rw [hl, putAt_get ha pa pb hne]
/-- The zero value of a table. -/
abbrev noTab : List AV := [.str (bs []), .str (bs []), .sl [], .sl [], .bool false, .sl []]
end Go.Bv
