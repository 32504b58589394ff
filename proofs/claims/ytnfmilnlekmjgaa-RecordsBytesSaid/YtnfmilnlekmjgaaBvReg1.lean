/- BY VALUE, part 7: regions in the text's order. -/
import Derived.Test.YtnfmilnlekmjgaaBvOps11
set_option linter.unusedVariables false
set_option linter.unusedSimpArgs false
namespace Go.Bv
open Go.RowKit

def compG (ops : Array Oper) : Option (Nat × Bool) → Option (Option (Nat × Bool))
  | none => some none
  | some (j, want) => match (ops[j]?).bind (·.dst) with
    | some t => some (some (t, want))
    | none => none

def compOP (P : Program) (ops : Array Oper) (o : Oper) : Option OP :=
  match compO P o, compG ops o.guard with
  | some op, some g => some ⟨o.dst, op, g⟩
  | _, _ => none

def compOPs (P : Program) (ops : Array Oper) : List Oper → Option (List OP)
  | [] => some []
  | o :: l => match compOP P ops o, compOPs P ops l with
    | some c, some m => some (c :: m)
    | _, _ => none

section
variable {P : Program} {base : Nat} {w0 : World} {ok0 : Nat → Nat → Prop} {e : Env} {a : Act} {w : World} {G : Gh}
variable {R : Nat → List AV → Option AV} {K : Act → World → Prop} {Q : Exit → Act → World → Prop} {e' : Env} {ops : Array Oper}

theorem compOPs_spec : ∀ {l : List Oper} {m : List OP}, compOPs P ops l = some m → m.length = l.length ∧ ∀ i, i < l.length → ∃ o c, l[i]? = some o ∧ m[i]? = some c ∧ compOP P ops o = some c
  | [], m, h => by simp [compOPs] at h; subst h; exact ⟨rfl, fun i hi => absurd hi (by simp)⟩
  | o :: l, m, h => by
    simp only [compOPs] at h
    cases h1 : compOP P ops o with
    | none => simp [h1] at h
    | some c =>
      cases h2 : compOPs P ops l with
      | none => simp [h1, h2] at h
      | some m' =>
        simp only [h1, h2, Option.some.injEq] at h
        subst h
        obtain ⟨i1, i2⟩ := compOPs_spec h2
        refine ⟨by simp [i1], fun i hi => ?_⟩
        cases i with
        | zero => exact ⟨o, c, rfl, rfl, h1⟩
        | succ i => simpa using i2 i (by simpa using hi)

theorem simOP (hR : VSound P R) (h : Rel base w0 ok0 e a w G) {i : Nat} {o : Oper} {c : OP} (hi : ops[i]? = some o) (hc : compOP P ops o = some c) (he : evalOP R e c = some e')
    (hK : ∀ a' w' G', Rel base w0 ok0 e' a' w' G' → K a' w') : wpOp P ops Q i K a w := by
  unfold compOP at hc
  cases h1 : compO P o with
  | none => simp [h1] at hc
  | some op =>
    cases h2 : compG ops o.guard with
    | none => simp [h1, h2] at hc
    | some g =>
      simp only [h1, h2, Option.some.injEq] at hc
      subst hc
      unfold wpOp
      simp only [hi]
      cases hg : o.guard with
      | none =>
        rw [hg] at h2
        simp [compG] at h2
        subst h2
        have hw : Region.wanted o (yielded ops a.tmps) = true := by simp [Region.wanted, hg]
        rw [if_pos hw]
        exact .inl (simO hR h h1 he hK)
      | some jw =>
        obtain ⟨j, want⟩ := jw
        rw [hg] at h2
        simp only [compG] at h2
        cases h3 : (ops[j]?).bind (·.dst) with
        | none => simp [h3] at h2
        | some t =>
          simp only [h3, Option.some.injEq] at h2
          subst h2
          simp only [evalOP] at he
          by_cases hund : e.tmps.getD t .unk = .und
          · rw [hund] at he
            simp only [Option.some.injEq] at he
            subst he
            have ht : t < e.tmps.length := by
              rcases Nat.lt_or_ge t e.tmps.length with ht | ht
              · exact ht
              · simp [List.getD_eq_getElem?_getD, List.getElem?_eq_none ht] at hund
            have hv := h.tmps t ht
            rw [hund] at hv
            have hb : a.tmps.getD t undef = undef := by
              generalize a.tmps.getD t undef = v at hv
              cases hv; rfl
            have hts : t < a.tmps.size := by rw [h.size]; exact ht
            have hy : yielded ops a.tmps j = none := by
              have h5 : a.tmps[t]? = some undef := by
                rw [Array.getD_eq_getD_getElem?, Array.getElem?_eq_getElem hts] at hb
                rw [Array.getElem?_eq_getElem hts]
                simpa using hb
              simp [yielded, h3, h5, undef]
            have hw : Region.wanted o (yielded ops a.tmps) = false := by simp [Region.wanted, hg, hy]
            rw [if_neg (by rw [hw]; simp)]
            exact hK _ _ _ (h.put o.dst RepR.und.toT)
          cases h4 : e.tmps.getD t .unk <;> simp only [h4] at he <;> (first | (cases he; done) | exact absurd h4 hund | skip)
          rename_i b
          have ht : t < e.tmps.length := by
            rcases Nat.lt_or_ge t e.tmps.length with ht | ht
            · exact ht
            · simp [List.getD_eq_getElem?_getD, List.getElem?_eq_none ht] at h4
          have hv := h.tmps t ht
          rw [h4] at hv
          have hb := inv_bool hv
          have hts : t < a.tmps.size := by rw [h.size]; exact ht
          have hy : yielded ops a.tmps j = some b := by
            have h5 : a.tmps[t]? = some (.bool b) := by
              rw [Array.getD_eq_getD_getElem?, Array.getElem?_eq_getElem hts] at hb
              rw [Array.getElem?_eq_getElem hts]
              simpa using hb
            simp [yielded, h3, h5]
          have hw : Region.wanted o (yielded ops a.tmps) = (b == want) := by simp [Region.wanted, hg, hy]
          by_cases hbw : b = want
          · rw [if_pos hbw] at he
            rw [if_pos (by rw [hw]; simp [hbw])]
            exact .inl (simO hR h h1 he hK)
          · rw [if_neg hbw] at he
            cases he
            rw [if_neg (by rw [hw]; simp [hbw])]
            exact hK _ _ _ (h.put o.dst RepR.und.toT)

theorem simOps (hR : VSound P R) {cs : List OP} (hcs : compOPs P ops ops.toList = some cs) (hQ : ∀ a' w' G', Rel base w0 ok0 e' a' w' G' → Q .normal a' w') :
    ∀ (n k : Nat) (e : Env) (a : Act) (w : World) (G : Gh), k + n = ops.size → Rel base w0 ok0 e a w G → evalOps R (cs.drop k) e = some e' → wpOps P ops Q (List.range' k n) a w := by
  obtain ⟨hl, hsp⟩ := compOPs_spec hcs
  intro n
  induction n with
  | zero =>
    intro k e a w G hk h he
    have : cs.drop k = [] := List.drop_eq_nil_of_le (by rw [hl]; simp; omega)
    rw [this] at he
    cases he
    exact hQ _ _ _ h
  | succ n ih =>
    intro k e a w G hk h he
    have hk' : k < ops.toList.length := by simp; omega
    obtain ⟨o, c, h1, h2, h3⟩ := hsp k hk'
    have hlt : k < cs.length := by rw [hl]; exact hk'
    have hc : cs[k] = c := by rw [List.getElem?_eq_getElem hlt] at h2; simpa using h2
    rw [List.drop_eq_getElem_cons hlt, hc] at he
    simp only [evalOps] at he
    cases h4 : evalOP R e c with
    | none => simp [h4] at he
    | some e1 =>
      simp only [h4] at he
      rw [List.range'_succ, wpOps_cons]
      exact simOP hR h (by rw [← Array.getElem?_toList]; exact h1) h3 h4 (fun a' w' G' h' => ih (k + 1) e1 a' w' G' (by omega) h' he)

/-- A region in the text's order. -/
theorem sim_region (hR : VSound P R) (h : Rel base w0 ok0 e a w G) {id : Nat} {cs : List OP} (hcs : compOPs P ops ops.toList = some cs) (he : evalOps R cs e = some e')
    (hQ : ∀ a' w' G', Rel base w0 ok0 e' a' w' G' → Q .normal a' w') : (Code.region id ops false).wp P Q a w := by
  refine wp_region ?_
  rw [List.range_eq_range']
  exact simOps hR hcs hQ ops.size 0 e a w G (by omega) h (by simpa using he)

/-! ### What a draw leaves -/
theorem Rel.drew (h : Rel base w0 ok0 e a w G) : Rel base w0 ok0 e a w.drew G := by
  have h1 := h.world (w' := w.drew) ((Below.refl _ _).drew) (fun _ _ => False) (fun _ _ hh => hh.elim)
  have : (fun b o => G.ok b o ∨ False) = G.ok := by funext b o; simp
  rw [this] at h1
  exact h1

/-! ### Keys that are given up -/
def Env.kill1 (e : Env) (d : Nat) : Env := { e with objs := e.objs.modify d AObj.kill }
theorem Env.kill_cons (e : Env) (d : Nat) (ks : List Nat) : e.kill (d :: ks) = (e.kill1 d).kill ks := rfl
theorem Env.kill_nil (e : Env) : e.kill [] = e := rfl

theorem Env.kill1_eq (e : Env) (d : Nat) (hd : d < e.objs.length) : e.kill1 d = e.setObj d (e.gen d + 1) .dead := by
  unfold Env.kill1 Env.setObj Env.gen
  congr 1
  apply List.ext_getElem?
  intro i
  rw [List.getElem?_modify, List.getElem?_set]
  by_cases h : d = i
  · subst h
    simp only [if_true, List.getElem?_eq_getElem hd, hd, AObj.kill]
    rfl
  · rw [if_neg h]; simp [h]

theorem Env.kill1_out (e : Env) (d : Nat) (hd : ¬ d < e.objs.length) : e.kill1 d = e := by
  unfold Env.kill1
  have : e.objs.modify d AObj.kill = e.objs := by
    apply List.ext_getElem?
    intro i
    rw [List.getElem?_modify]
    by_cases h : d = i
    · subst h; simp [List.getElem?_eq_none (Nat.le_of_not_lt hd)]
    · simp [h]
  rw [this]

theorem Rel.kill1 (h : Rel base w0 ok0 e a w G) (d : Nat) : ∃ G', Rel base w0 ok0 (e.kill1 d) a w G' := by
  by_cases hd : d < e.objs.length
  · rw [Env.kill1_eq e d hd]
    exact ⟨_, h.change hd (Weaker.newer hd (by omega)) (Below.refl _ _) (fun _ _ _ _ _ => rfl) (fun _ _ _ => rfl) (fun hh => by omega) (fun hh => by omega) (by omega) (nv := .nilFunc) trivial (fun hh => by cases hh)⟩
  · rw [Env.kill1_out e d hd]; exact ⟨G, h⟩

theorem Rel.kill (h : Rel base w0 ok0 e a w G) : ∀ ks, ∃ G', Rel base w0 ok0 (e.kill ks) a w G' := by
  intro ks
  induction ks generalizing e G with
  | nil => exact ⟨G, h⟩
  | cons d ks ih =>
    obtain ⟨G1, h1⟩ := h.kill1 d
    exact ih h1

end
end Go.Bv
