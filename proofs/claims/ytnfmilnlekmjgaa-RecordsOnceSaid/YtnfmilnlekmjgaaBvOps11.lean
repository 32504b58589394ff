import Derived.Test.YtnfmilnlekmjgaaBvOps9
set_option linter.unusedVariables false
set_option linter.unusedSimpArgs false
namespace Go.Bv
open Go.RowKit

section
variable {P : Program} {base : Nat} {w0 : World} {ok0 : Nat → Nat → Prop} {e : Env} {a : Act} {w : World} {G : Gh}
variable {R : Nat → List AV → Option AV} {o : Oper} {K : Act → World → Prop} {Q : Exit → Act → World → Prop} {e' : Env}

theorem omap {α β : Type} {x : Option α} {f : α → β} {b : β} (h : x.map f = some b) : ∃ a, x = some a ∧ f a = b := by
  cases x with
  | none => cases h
  | some a => exact ⟨a, rfl, by simpa using h⟩

theorem cpy_app {dst : Option Nat} {E c by_ : Nat} {x : X} (he : evalO R e dst (.cpy E c by_ x) = some e') : evalO R e dst (.app E c by_ (.c .nil) x) = some e' := by
  have hgn : e.get (.c .nil) = .nil := rfl
  simp only [evalO, act, hgn, appendA] at he ⊢
  cases hx : e.elems (e.get x) with
  | none => simp only [hx] at he; cases he
  | some q =>
    obtain ⟨m, ks⟩ := q
    simp only [hx] at he ⊢
    by_cases hb : m.length * by_ ≤ 140737488355328 ∧ m.all (fun y => y.length == c) = true
    case neg => rw [if_neg hb] at he; cases he
    rw [if_pos hb] at he
    simp only [applyRes] at he
    cases dst with
    | none => cases he
    | some d =>
      simp only at he ⊢
      have hl : ∀ (ks : List Nat) (e : Env), (e.freeze ks).objs.length = e.objs.length := by
        intro ks
        induction ks with
        | nil => intro e; rfl
        | cons k ks ih => intro e; rw [Env.freeze_cons, ih, Env.freeze1_len]
      have hg : ∀ (ks : List Nat) (e : Env), (e.freeze ks).gen d = e.gen d := by
        intro ks
        induction ks with
        | nil => intro e; rfl
        | cons k ks ih => intro e; rw [Env.freeze_cons, ih, Env.freeze1_gen]
      rw [hl, hg] at he
      by_cases hd : d < e.objs.length
      · rw [if_pos hd] at he
        rw [if_pos ⟨hb.1, hb.2, hd⟩]
        exact he
      · rw [if_neg hd] at he; cases he

/-- **Each operation of the machine that can be told does what the evaluator says.** -/
theorem simO (hR : VSound P R) (h : Rel base w0 ok0 e a w G) {op : O} (hc : compO P o = some op) (he : evalO R e o.dst op = some e')
    (hK : ∀ a' w' G', Rel base w0 ok0 e' a' w' G' → K a' w') : o.wp P a w K Q := by
  cases hop : o.op <;> simp only [compO, hop] at hc <;> try (cases hc; done)
  case move x =>
    obtain ⟨y, h1, rfl⟩ := omap hc
    exact sim_mv h h1 (.inl hop) he hK
  case assign x =>
    obtain ⟨y, h1, rfl⟩ := omap hc
    exact sim_mv h h1 (.inr hop) he hK
  case pick c x y =>
    cases h1 : compX c with
    | none => simp [h1] at hc
    | some c' =>
      cases h2 : compX x with
      | none => simp [h1, h2] at hc
      | some x' =>
        cases h3 : compX y with
        | none => simp [h1, h2, h3] at hc
        | some y' =>
          simp only [h1, h2, h3, Option.some.injEq] at hc
          subst hc
          exact sim_pick h h1 h2 h3 hop he hK
  case alloc T =>
    obtain ⟨z, h1, rfl⟩ := omap hc
    exact sim_new h hop h1 he hK
  case box T x =>
    obtain ⟨y, h1, rfl⟩ := omap hc
    exact sim_box h h1 hop he hK
  case build t parts =>
    cases h1 : P.underlying t with
    | none => simp [h1] at hc
    | some D =>
      cases D <;> simp only [h1] at hc <;> try (cases hc; done)
      rename_i fields
      cases h2 : zeroOf P t with
      | none => simp [h2] at hc
      | some z =>
        simp only [h2] at hc
        cases h3 : fields.toList.mapM (fun f => (P.info? f.type).map fun i => (f.offset, i.size)) with
        | none => simp [h3] at hc
        | some places =>
          simp only [h3] at hc
          cases h4 : partsOf places parts.toList with
          | none => simp [h4] at hc
          | some qs =>
            simp only [h4] at hc
            by_cases hfp : freshPos o.pos = true
            · rw [if_pos hfp] at hc
              cases h5 : qs.getLast? with
              | none => simp [h5] at hc
              | some q =>
                simp only [h5] at hc
                by_cases h6 : q.2.1 = 1
                case neg => rw [if_neg h6] at hc; cases hc
                rw [if_pos h6] at hc
                cases hc
                exact sim_bldo h hop h1 h2 h3 h4 h5 h6 he hK
            · rw [if_neg hfp] at hc
              cases hc
              exact sim_bld h hop h1 h2 h3 h4 he hK
  case buildSlice t len parts =>
    cases h1 : P.underlying t with
    | none => simp [h1] at hc
    | some D =>
      cases D <;> simp only [h1] at hc <;> try (cases hc; done)
      rename_i el
      cases h2 : zeroOf P el with
      | none => simp [h2] at hc
      | some z =>
        cases h3 : compXs (parts.toList.map (·.2)) with
        | none => simp [h2, h3] at hc
        | some xs =>
          simp only [h2, h3] at hc
          by_cases hb : parts.toList.map (·.1) = List.range len ∧ 0 < z.2.1 ∧ len * z.2.1 ≤ 16777216
          case neg => rw [if_neg hb] at hc; cases hc
          rw [if_pos hb] at hc
          cases hc
          exact sim_lit h hop h1 h2 h3 hb.1 hb.2.1 hb.2.2 he hK
  case load t x =>
    cases h1 : compX x with
    | none => simp [h1] at hc
    | some x' =>
      cases h2 : P.underlying t with
      | none => simp [h1, h2] at hc
      | some D =>
        cases h3 : sizeOf? P t with
        | none => simp [h1, h2, h3] at hc
        | some n =>
          simp only [h1, h2, h3] at hc
          cases D <;> simp only [Option.some.injEq] at hc <;> subst hc <;> first
            | exact sim_ldn h h1 hop h2 (.inl ⟨_, rfl⟩) h3 he hK
            | exact sim_ldn h h1 hop h2 (.inr ⟨_, _, rfl⟩) h3 he hK
            | exact sim_ld1 h h1 hop h2 (fun _ hh => by cases hh) (fun _ _ hh => by cases hh) he hK
  case store t p x =>
    by_cases hd : o.dst = none
    case neg => rw [if_neg hd] at hc; cases hc
    rw [if_pos hd] at hc
    cases h1 : compX p with
    | none => simp [h1] at hc
    | some p' =>
      cases h2 : compX x with
      | none => simp [h1, h2] at hc
      | some x' =>
        cases h3 : sizeOf? P t with
        | none => simp [h1, h2, h3] at hc
        | some n =>
          simp only [h1, h2, h3, Option.some.injEq] at hc
          subst hc
          exact sim_st h h1 h2 h3 hop hd he hK
  case nilCheck x =>
    obtain ⟨y, h1, rfl⟩ := omap hc
    exact sim_nck h h1 hop he hK
  case binOp op' T x y U =>
    cases h1 : compX x with
    | none => simp [h1] at hc
    | some x' =>
      cases h2 : compX y with
      | none => simp [h1, h2] at hc
      | some y' =>
        cases h3 : P.underlying T with
        | none => simp [h1, h2, h3] at hc
        | some D =>
          simp only [h1, h2, h3] at hc
          cases D <;> simp only at hc <;> try (cases hc; done)
          case int k =>
            cases hc
            exact sim_bin h h1 h2 hop he hK
          case string =>
            cases hc
            exact sim_bin h h1 h2 hop he hK
          case bool =>
            by_cases q1 : op' = .eql
            · rw [if_pos q1] at hc
              cases hc
              exact sim_beq (ne := false) h h1 h2 hop (by simpa using q1) h3 he hK
            · rw [if_neg q1] at hc
              by_cases q2 : op' = .neq
              · rw [if_pos q2] at hc
                cases hc
                exact sim_beq (ne := true) h h1 h2 hop (by simpa using q2) h3 he hK
              · rw [if_neg q2] at hc; cases hc
          case struct fs =>
            by_cases q0 : P.eqGuardType P.depth T = false
            case neg => rw [if_neg q0] at hc; cases hc
            rw [if_pos q0] at hc
            cases h4 : plainT P 20 T with
            | none => simp [h4] at hc
            | some ks =>
              simp only [h4] at hc
              by_cases q1 : op' = .eql
              · rw [if_pos q1] at hc
                cases hc
                exact sim_eqs (ne := false) h h1 h2 hop (by simpa using q1) h3 q0 h4 he hK
              · rw [if_neg q1] at hc
                by_cases q2 : op' = .neq
                · rw [if_pos q2] at hc
                  cases hc
                  exact sim_eqs (ne := true) h h1 h2 hop (by simpa using q2) h3 q0 h4 he hK
                · rw [if_neg q2] at hc; cases hc
  case unOp op' T x =>
    obtain ⟨y, h1, rfl⟩ := omap hc
    exact sim_un h h1 hop he hK
  case convert s d x =>
    cases h1 : compX x with
    | none => simp [h1] at hc
    | some x' =>
      cases h2 : P.underlying s with
      | none => simp [h1, h2] at hc
      | some S =>
        cases h3 : P.underlying d with
        | none => simp [h1, h2, h3] at hc
        | some D =>
          simp only [h1, h2, h3] at hc
          cases D <;> cases S <;> simp only at hc <;> try (cases hc; done)
          case int.int k k' =>
            cases hc
            exact sim_cvi h h1 hop (by rw [h2]; rfl) h3 he hK
          case string.string =>
            cases hc
            exact sim_cvs h h1 hop h2 h3 he hK
          case string.slice el =>
            by_cases q : isU8 P el = true
            case neg => rw [if_neg q] at hc; cases hc
            rw [if_pos q] at hc
            cases hc
            refine sim_cvbs h h1 hop h2 h3 ?_ he hK
            unfold isU8 at q
            split at q
            · assumption
            · cases q
          case slice.string el =>
            by_cases q : isU8 P el = true
            case neg => rw [if_neg q] at hc; cases hc
            rw [if_pos q] at hc
            cases hc
            refine sim_cvsb h h1 hop h2 h3 ?_ he hK
            unfold isU8 at q
            split at q
            · assumption
            · cases q
  case makeSlice t l c =>
    cases h1 : P.underlying t with
    | none => simp [h1] at hc
    | some D =>
      cases D <;> simp only [h1] at hc <;> try (cases hc; done)
      rename_i el
      cases h2 : compX l with
      | none => simp [h2] at hc
      | some n =>
        simp only [h2] at hc
        cases h3 : zeroOf P el with
        | none => simp [h3] at hc
        | some z =>
          simp only [h3] at hc
          by_cases q : sameOp l c = true
          case neg => rw [if_neg q] at hc; cases hc
          rw [if_pos q] at hc
          cases hc
          by_cases q2 : a.eval c = a.eval l
          · exact sim_mk h hop h1 h3 h2 q2 he hK
          · exfalso
            unfold sameOp at q
            split at q
            · have : _ := eq_of_beq q
              subst this
              exact q2 rfl
            · rename_i k a' k' b'
              simp only [Bool.and_eq_true, beq_iff_eq] at q
              obtain ⟨rfl, q⟩ := q
              have hk : k = k' := by simpa using q
              subst hk
              exact q2 rfl
            · cases q
  case slice t x lo hi mx =>
    cases mx with
    | some m => simp at hc
    | none =>
      simp only at hc
      cases h1 : compX x with
      | none => simp [h1] at hc
      | some x' =>
        cases h2 : P.underlying t with
        | none => simp [h1, h2] at hc
        | some D =>
          cases h3 : compXo lo with
          | none => simp [h1, h2, h3] at hc
          | some lo' =>
            cases h4 : compXo hi with
            | none => simp [h1, h2, h3, h4] at hc
            | some hi' =>
              simp only [h1, h2, h3, h4] at hc
              cases D <;> simp only at hc <;> try (cases hc; done)
              case string =>
                cases hc
                exact sim_subs h h1 hop h2 h3 h4 he hK
              case slice el =>
                obtain ⟨c, h5, rfl⟩ := omap hc
                exact sim_sub h h1 hop h2 h5 h3 h4 he hK
  case fieldAddr s x f =>
    cases h1 : compX x with
    | none => simp [h1] at hc
    | some x' =>
      cases h2 : P.underlying s with
      | none => simp [h1, h2] at hc
      | some D =>
        simp only [h1, h2] at hc
        cases D <;> simp only at hc <;> try (cases hc; done)
        rename_i fields
        cases h3 : fields[f]? with
        | none => simp [h3] at hc
        | some fd =>
          simp only [h3] at hc
          cases h4 : sizeOf? P fd.type with
          | none => simp [h4] at hc
          | some n =>
            simp only [h4] at hc
            by_cases q : n ≠ 0
            case neg => rw [if_neg q] at hc; cases hc
            rw [if_pos q] at hc
            cases hc
            exact sim_fa h h1 hop h2 h3 h4 q he hK
  case indexAddr t x i =>
    cases h1 : compX x with
    | none => simp [h1] at hc
    | some x' =>
      cases h2 : compX i with
      | none => simp [h1, h2] at hc
      | some i' =>
        cases h3 : P.underlying t with
        | none => simp [h1, h2, h3] at hc
        | some D =>
          simp only [h1, h2, h3] at hc
          cases D <;> simp only at hc <;> try (cases hc; done)
          obtain ⟨c, h4, rfl⟩ := omap hc
          exact sim_ia h h1 h2 hop h3 h4 he hK
  case lookup t x k ok =>
    cases ok with
    | true => cases hc
    | false =>
      simp only at hc
      split at hc
      · rename_i y j kt et h1 h2 h3
        split at hc
        · rename_i i h4 h5
          split at hc
          · rename_i h6
            cases hc
            exact sim_lkp h h1 h2 hop h3 h4 h5 h6 he hK
          · cases hc
        · cases hc
      · cases hc
  case index t x i =>
    cases h1 : compX x with
    | none => simp [h1] at hc
    | some x' =>
      cases h2 : compX i with
      | none => simp [h1, h2] at hc
      | some i' =>
        cases h3 : P.underlying t with
        | none => simp [h1, h2, h3] at hc
        | some D =>
          simp only [h1, h2, h3] at hc
          cases D <;> simp only at hc <;> try (cases hc; done)
          cases hc
          exact sim_ix h h1 h2 hop h3 he hK
  case extract t i =>
    obtain ⟨y, h1, rfl⟩ := omap hc
    exact sim_ext h h1 hop he hK
  case makeFunc fn first caps =>
    cases fn <;> simp only at hc <;> try (cases hc; done)
    by_cases h0 : first.size = 0
    case neg => rw [if_neg h0] at hc; cases hc
    rw [if_pos h0] at hc
    obtain ⟨xs, h1, rfl⟩ := omap hc
    exact sim_clo h hop h0 h1 he hK
  case call c =>
    cases hcal : c.callee <;> simp only [hcal] at hc <;> try (cases hc; done)
    case value f =>
      cases f <;> simp only at hc <;> try (cases hc; done)
      case tmp t =>
        obtain ⟨xs, h1, rfl⟩ := omap hc
        exact sim_calld hR h hop hcal h1 he hK
      rename_i f
      cases h1 : P.funcs[f]? with
      | none => simp [h1] at hc
      | some fn =>
        cases h2 : compXs c.args.toList with
        | none => simp [h1, h2] at hc
        | some xs =>
          simp only [h1, h2] at hc
          by_cases q : (fn.name == "runtime.NumGoroutine") = false ∧ fn.body.isSome = true
          case neg => rw [if_neg q] at hc; cases hc
          rw [if_pos q] at hc
          cases hc
          exact sim_call hR h hop hcal h1 q.1 q.2 h2 he hK
    case builtin b =>
      cases b <;> simp only at hc <;> try (cases hc; done)
      case len =>
        split at hc
        · rename_i x t hx ht
          have hargs : c.args = #[x] := by apply Array.ext'; simpa using hx
          have hts : c.argTypes = #[t] := by apply Array.ext'; simpa using ht
          cases h1 : compX x with
          | none => simp [h1] at hc
          | some x' =>
            cases h2 : P.underlying t with
            | none => simp [h1, h2] at hc
            | some D =>
              simp only [h1, h2] at hc
              cases D <;> simp only at hc <;> try (cases hc; done)
              · cases hc
                exact sim_lens h h1 hop hcal hargs hts h2 he hK
              · cases hc
                exact sim_len h h1 hop hcal hargs hts h2 he hK
        · cases hc
      case append =>
        split at hc
        · rename_i s x t u hx ht
          have hargs : c.args = #[s, x] := by apply Array.ext'; simpa using hx
          have hts : c.argTypes = #[t, u] := by apply Array.ext'; simpa using ht
          cases h1 : compX s with
          | none => simp [h1] at hc
          | some s' =>
            cases h2 : compX x with
            | none => simp [h1, h2] at hc
            | some x' =>
              cases h3 : P.underlying t with
              | none => simp [h1, h2, h3] at hc
              | some D =>
                simp only [h1, h2, h3] at hc
                cases D <;> simp only at hc <;> try (cases hc; done)
                rename_i el
                cases h4 : zeroOf P el with
                | none => simp [h4] at hc
                | some z =>
                  simp only [h4] at hc
                  by_cases q : 0 < z.2.1 ∧ 0 < z.2.2 ∧ u = t
                  case neg => rw [if_neg q] at hc; cases hc
                  rw [if_pos q] at hc
                  cases hc
                  obtain ⟨q1, q2, rfl⟩ := q
                  have he' : evalO R e o.dst (.app el z.2.1 z.2.2 s' x') = some e' := by
                    cases s' with
                    | t n => exact he
                    | c A => cases A <;> first | exact he | exact cpy_app he
                  exact sim_app h hop hcal hargs hts h1 h2 h3 h4 q1 q2 he' hK
        · cases hc
      case max =>
        split at hc
        · rename_i x y hx
          have hargs : c.args = #[x, y] := by apply Array.ext'; simpa using hx
          cases h1 : compX x with
          | none => simp [h1] at hc
          | some x' =>
            cases h2 : compX y with
            | none => simp [h1, h2] at hc
            | some y' =>
              simp only [h1, h2, Option.some.injEq] at hc
              subst hc
              simp only [evalO, act] at he
              cases hb : mnxA true (e.get x') (e.get y') with
              | none => simp [hb] at he
              | some D =>
                simp only [hb] at he
                obtain ⟨v, hr, hv⟩ := mnxA_max (P := P) (w := w) (G := G) hb (compX_rep h1 h) (compX_rep h2 h)
                refine sim_val0 h (v := v) ?_ hv.toT he hK
                simp [execOp, hop, resolve, hcal, hargs, invoke, builtin, Builtin.max_, hr]
        · cases hc
      case min =>
        split at hc
        · rename_i x y hx
          have hargs : c.args = #[x, y] := by apply Array.ext'; simpa using hx
          cases h1 : compX x with
          | none => simp [h1] at hc
          | some x' =>
            cases h2 : compX y with
            | none => simp [h1, h2] at hc
            | some y' =>
              simp only [h1, h2, Option.some.injEq] at hc
              subst hc
              simp only [evalO, act] at he
              cases hb : mnxA false (e.get x') (e.get y') with
              | none => simp [hb] at he
              | some D =>
                simp only [hb] at he
                obtain ⟨v, hr, hv⟩ := mnxA_min (P := P) (w := w) (G := G) hb (compX_rep h1 h) (compX_rep h2 h)
                refine sim_val0 h (v := v) ?_ hv.toT he hK
                simp [execOp, hop, resolve, hcal, hargs, invoke, builtin, Builtin.min_, hr]
        · cases hc

end
end Go.Bv
