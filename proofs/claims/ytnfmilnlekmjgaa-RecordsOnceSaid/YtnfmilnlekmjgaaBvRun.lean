/- BY VALUE, part 15: with as many rounds as it takes. -/
import Derived.Test.YtnfmilnlekmjgaaBvCode
set_option linter.unusedVariables false
set_option linter.unusedSimpArgs false
namespace Go.Bv

section
variable {α : Type}

open Classical in
noncomputable def lim (g : Nat → Option α) : Option α := if h : ∃ n, (g n).isSome = true then g h.choose else none

def Mono (g : Nat → Option α) : Prop := ∀ n r, g n = some r → g (n + 1) = some r

theorem Mono.le {g : Nat → Option α} (h : Mono g) {n m : Nat} (hnm : n ≤ m) {r : α} (hr : g n = some r) : g m = some r := by
  induction hnm with
  | refl => exact hr
  | step _ ih => exact h _ _ ih

theorem lim_some {g : Nat → Option α} {r : α} (h : lim g = some r) : ∃ n, g n = some r := by
  unfold lim at h
  split at h
  · exact ⟨_, h⟩
  · cases h

theorem lim_of {g : Nat → Option α} (hg : Mono g) {n : Nat} {r : α} (h : g n = some r) : lim g = some r := by
  unfold lim
  have hex : ∃ n, (g n).isSome = true := ⟨n, by rw [h]; rfl⟩
  rw [dif_pos hex]
  obtain ⟨r', hr'⟩ := Option.isSome_iff_exists.1 hex.choose_spec
  rcases Nat.le_total n hex.choose with hle | hle
  · rw [hg.le hle h]
  · have := hg.le hle hr'
    rw [h] at this
    cases this
    exact hr'
end

abbrev RT := Nat → List AV → Option AV
abbrev BT := Env → Option (Ex × Env)
def LeR (R R' : RT) : Prop := ∀ f as r, R f as = some r → R' f as = some r
def LeB (b b' : BT) : Prop := ∀ e r, b e = some r → b' e = some r
def LeL (L L' : BT → BT) : Prop := ∀ b b', LeB b b' → LeB (L b) (L' b')

theorem loopN_mono {b b' : BT} (hb : LeB b b') : ∀ {n n' : Nat}, n ≤ n' → ∀ {e : Env} {r : Ex × Env}, loopN b n e = some r → loopN b' n' e = some r
  | 0, n', _, e, r, h => by simp [loopN] at h
  | n + 1, 0, hn, e, r, h => by omega
  | n + 1, n' + 1, hn, e, r, h => by
    simp only [loopN] at h ⊢
    cases h1 : b e with
    | none => simp [h1] at h
    | some q =>
      rw [hb e q h1]
      obtain ⟨x, e'⟩ := q
      cases x with
      | normal => simp only [h1] at h ⊢; exact loopN_mono hb (by omega) h
      | exit id => simp only [h1] at h ⊢; exact h
      | ret => simp only [h1] at h ⊢; exact h

section
variable {R R' : RT} {L L' : BT → BT} {e : Env}

theorem act_mono (hR : LeR R R') {o : O} {r : Res × List Nat} (h : act R e o = some r) : act R' e o = some r := by
  cases o <;> try exact h
  case ld n p => cases n <;> exact h
  case calld x xs =>
    simp only [act] at h ⊢
    cases hx : e.get x <;> simp only [hx] at h ⊢ <;> try (cases h; done)
    rename_i f l
    cases h1 : e.args xs with
    | none => simp [h1] at h
    | some q =>
      obtain ⟨as, ks⟩ := q
      simp only [h1] at h ⊢
      cases h2 : R f (as ++ l) with
      | none => simp [h2] at h
      | some A => rw [hR f (as ++ l) A h2]; rw [h2] at h; exact h
  case call f xs =>
    simp only [act] at h ⊢
    cases h1 : e.args xs with
    | none => simp [h1] at h
    | some q =>
      obtain ⟨as, ks⟩ := q
      simp only [h1] at h ⊢
      cases h2 : R f as with
      | none => simp [h2] at h
      | some A => rw [hR f as A h2]; rw [h2] at h; exact h

theorem calld_eq {x : X} {xs : List X} : act R e (.calld x xs) = (match e.get x with
    | .fn f l => match e.args xs with
      | some (as, ks) => callRes (R f (as ++ l)) ks
      | none => none
    | _ => none) := by
  simp only [act]
  cases e.get x <;> rfl

theorem evalO_mono (hR : LeR R R') {o : O} {d : Option Nat} {e' : Env} (h : evalO R e d o = some e') : evalO R' e d o = some e' := by
  by_cases hw : o.cls = .w
  · cases o <;> first | exact h | (cases hw; done)
  · rw [evalO_act hw] at h ⊢
    cases h1 : act R e o with
    | none => simp [h1] at h
    | some q => rw [act_mono hR h1]; rw [h1] at h; exact h

theorem evalOP_mono (hR : LeR R R') {c : OP} {e' : Env} (h : evalOP R e c = some e') : evalOP R' e c = some e' := by
  unfold evalOP at h ⊢
  cases hg : c.guard with
  | none => rw [hg] at h; exact evalO_mono hR h
  | some g =>
    obtain ⟨t, want⟩ := g
    rw [hg] at h
    simp only at h ⊢
    cases hb : e.tmps.getD t .unk <;> simp only [hb] at h ⊢ <;> try (cases h; done)
    · exact h
    split at h
    · rename_i hh; rw [if_pos hh]; exact evalO_mono hR h
    · rename_i hh; rw [if_neg hh]; exact h

theorem evalOps_mono (hR : LeR R R') : ∀ {ops : List OP} {e e' : Env}, evalOps R ops e = some e' → evalOps R' ops e = some e'
  | [], e, e', h => h
  | o :: os, e, e', h => by
    simp only [evalOps] at h ⊢
    cases h1 : evalOP R e o with
    | none => simp [h1] at h
    | some e1 => rw [evalOP_mono hR h1]; simp only [h1] at h; exact evalOps_mono hR h

theorem evalC_mono (hR : LeR R R') (hL : LeL L L') : ∀ (c : C) {e : Env} {r : Ex × Env}, evalC R L c e = some r → evalC R' L' c e = some r := by
  intro c
  induction c with
  | skip => intro e r h; exact h
  | exit id => intro e r h; exact h
  | ret => intro e r h; exact h
  | clr keep => intro e r h; exact h
  | reg ks ops =>
    intro e r h
    simp only [evalC] at h ⊢
    cases h1 : evalOps R ops (e.kill ks) with
    | none => simp [h1] at h
    | some e1 => rw [evalOps_mono hR h1]; simp only [h1] at h; exact h
  | seq a b iha ihb =>
    intro e r h
    simp only [evalC] at h ⊢
    cases h1 : evalC R L a e with
    | none => simp [h1] at h
    | some q =>
      rw [iha h1]
      obtain ⟨x, e1⟩ := q
      cases x <;> simp only [h1] at h ⊢
      · exact ihb h
      · exact h
      · exact h
  | cond x a b iha ihb =>
    intro e r h
    simp only [evalC] at h ⊢
    cases hb : e.get x <;> simp only [hb] at h ⊢ <;> try (cases h; done)
    split at h
    · rename_i hh; rw [if_pos hh]; exact iha h
    · rename_i hh; rw [if_neg hh]; exact ihb h
  | blk id a iha =>
    intro e r h
    simp only [evalC] at h ⊢
    cases h1 : evalC R L a e with
    | none => simp [h1] at h
    | some q => rw [iha h1]; rw [h1] at h; exact h
  | loop a iha =>
    intro e r h
    simp only [evalC] at h ⊢
    exact hL _ _ (fun e r h => iha h) e r h
  | chk ρ ν a iha =>
    intro e r h
    simp only [evalC] at h ⊢
    split at h
    · rename_i hh; rw [if_pos hh]; exact iha h
    · cases h

theorem evalF_mono (hR : LeR R R') (hL : LeL L L') {F : F} {as : List AV} {r : AV} (h : evalF R L F as = some r) : evalF R' L' F as = some r := by
  unfold evalF at h ⊢
  split at h
  · rename_i hh
    rw [if_pos hh]
    cases h1 : evalC R L F.body (F.start as) with
    | none => simp [h1] at h
    | some q => rw [evalC_mono hR hL _ h1]; rw [h1] at h; exact h
  · cases h
end

def LN (n : Nat) : BT → BT := fun b e => loopN b n e
theorem LN_le {n m : Nat} (h : n ≤ m) : LeL (LN n) (LN m) := fun b b' hb e r hr => loopN_mono hb h hr

variable {T : Nat → Option F} {S : RT}

theorem runK_succ (T : Nat → Option F) (S : RT) (n f : Nat) (as : List AV) : runK T S (n + 1) f as = match T f with
    | some F => evalF (runK T S n) (LN n) F as
    | none => S f as := rfl

theorem runK_mono : ∀ n, LeR (runK T S n) (runK T S (n + 1))
  | 0 => fun f as r h => by simp [runK] at h
  | n + 1 => fun f as r h => by
    rw [runK_succ] at h ⊢
    cases hf : T f with
    | none => simp only [hf] at h ⊢; exact h
    | some F => simp only [hf] at h ⊢; exact evalF_mono (runK_mono n) (LN_le (by omega)) h

theorem runK_le {n m : Nat} (h : n ≤ m) : LeR (runK T S n) (runK T S m) := by
  induction h with
  | refl => exact fun _ _ _ h => h
  | step _ ih => exact fun f as r h => runK_mono _ f as r (ih f as r h)

/-- The evaluator, with as many rounds as it takes. -/
noncomputable def run (T : Nat → Option F) (S : RT) : RT := fun f as => lim (fun n => runK T S n f as)
noncomputable def LL : BT → BT := fun b e => lim (fun n => loopN b n e)

theorem run_some {f : Nat} {as : List AV} {r : AV} (h : run T S f as = some r) : ∃ n, runK T S n f as = some r := lim_some h
theorem run_of {n f : Nat} {as : List AV} {r : AV} (h : runK T S n f as = some r) : run T S f as = some r := lim_of (fun n r h => runK_mono n f as r h) h
theorem LL_some {b : BT} {e : Env} {r : Ex × Env} (h : LL b e = some r) : ∃ n, loopN b n e = some r := lim_some h
theorem LL_of {b : BT} {n : Nat} {e : Env} {r : Ex × Env} (h : loopN b n e = some r) : LL b e = some r := lim_of (fun n r h => loopN_mono (fun _ _ h => h) (Nat.le_succ n) h) h

/-- A loop: a round, and the rest. -/
theorem LL_eq (b : BT) (e : Env) : LL b e = match b e with
    | some (.normal, e') => LL b e'
    | r => r := by
  have key : ∀ r, LL b e = some r ↔ (match b e with
    | some (.normal, e') => LL b e'
    | r => r) = some r := by
    intro r
    constructor
    · intro h
      obtain ⟨n, hn⟩ := LL_some h
      cases n with
      | zero => simp [loopN] at hn
      | succ n =>
        simp only [loopN] at hn
        cases h1 : b e with
        | none => simp [h1] at hn
        | some q =>
          obtain ⟨x, e1⟩ := q
          cases x <;> simp only [h1] at hn ⊢
          · exact LL_of hn
          · exact hn
          · exact hn
    · intro h
      cases h1 : b e with
      | none => simp [h1] at h
      | some q =>
        obtain ⟨x, e1⟩ := q
        cases x <;> simp only [h1] at h
        · obtain ⟨n, hn⟩ := LL_some h
          exact LL_of (n := n + 1) (by simp only [loopN, h1]; exact hn)
        · exact LL_of (n := 1) (by simp only [loopN, h1]; exact h)
        · exact LL_of (n := 1) (by simp only [loopN, h1]; exact h)
  generalize (match b e with
    | some (.normal, e') => LL b e'
    | r => r) = X at key
  cases X with
  | none =>
    cases hL : LL b e with
    | none => rfl
    | some r => exact ((key r).1 hL).symm
  | some r => exact (key r).2 rfl

theorem LN_LL (n : Nat) : LeL (LN n) LL := fun b b' hb e r h => LL_of (loopN_mono hb (Nat.le_refl n) h)

/-! ### Back to so many rounds -/
theorem evalOps_back : ∀ {ops : List OP} {e e' : Env}, evalOps (run T S) ops e = some e' → ∃ n, evalOps (runK T S n) ops e = some e'
  | [], e, e', h => ⟨0, h⟩
  | o :: os, e, e', h => by
    simp only [evalOps] at h
    cases h1 : evalOP (run T S) e o with
    | none => simp [h1] at h
    | some e1 =>
      simp only [h1] at h
      obtain ⟨n, hn⟩ := evalOps_back h
      have : ∃ m, evalOP (runK T S m) e o = some e1 := by
        unfold evalOP at h1
        have go : ∀ {e1 : Env}, evalO (run T S) e o.dst o.op = some e1 → ∃ m, evalO (runK T S m) e o.dst o.op = some e1 := by
          intro e1 h1
          by_cases hc : ∃ f xs, o.op = .call f xs
          · obtain ⟨f, xs, hf⟩ := hc
            rw [hf] at h1 ⊢
            simp only [evalO, act] at h1 ⊢
            cases ha : e.args xs with
            | none => simp [ha] at h1
            | some q =>
              obtain ⟨as, ks⟩ := q
              simp only [ha] at h1 ⊢
              cases hr : run T S f as with
              | none => simp [hr] at h1
              | some A =>
                obtain ⟨m, hm⟩ := run_some hr
                refine ⟨m, ?_⟩
                rw [hm]; rw [hr] at h1; exact h1
          · by_cases hd : ∃ x xs, o.op = .calld x xs
            · obtain ⟨x, xs, hf⟩ := hd
              rw [hf] at h1 ⊢
              simp only [evalO, calld_eq] at h1 ⊢
              cases hx : e.get x <;> simp only [hx] at h1 ⊢ <;> try (cases h1; done)
              rename_i f l
              cases ha : e.args xs with
              | none => simp [ha] at h1
              | some q =>
                obtain ⟨as, ks⟩ := q
                simp only [ha] at h1 ⊢
                cases hr : run T S f (as ++ l) with
                | none => simp [hr, callRes] at h1
                | some A =>
                  obtain ⟨m, hm⟩ := run_some hr
                  refine ⟨m, ?_⟩
                  rw [hm]; rw [hr] at h1; exact h1
            refine ⟨0, ?_⟩
            cases ho : o.op <;> rw [ho] at h1 hc hd <;> first | exact h1 | exact absurd ⟨_, _, rfl⟩ hc | exact absurd ⟨_, _, rfl⟩ hd | (rename_i n p; cases n <;> exact h1)
        cases hg : o.guard with
        | none =>
          rw [hg] at h1
          obtain ⟨m, hm⟩ := go h1
          exact ⟨m, by unfold evalOP; rw [hg]; exact hm⟩
        | some g =>
          obtain ⟨t, want⟩ := g
          rw [hg] at h1
          simp only at h1
          cases hb : e.tmps.getD t .unk <;> simp only [hb] at h1 <;> try (cases h1; done)
          · exact ⟨0, by unfold evalOP; rw [hg]; simp only [hb]; exact h1⟩
          split at h1
          · rename_i hh
            obtain ⟨m, hm⟩ := go h1
            exact ⟨m, by unfold evalOP; rw [hg]; simp only [hb]; rw [if_pos hh]; exact hm⟩
          · rename_i hh
            exact ⟨0, by unfold evalOP; rw [hg]; simp only [hb]; rw [if_neg hh]; exact h1⟩
      obtain ⟨m, hm⟩ := this
      refine ⟨max n m, ?_⟩
      simp only [evalOps, evalOP_mono (runK_le (Nat.le_max_right n m)) hm]
      exact evalOps_mono (runK_le (Nat.le_max_left n m)) hn

theorem evalC_back : ∀ (c : C) {e : Env} {r : Ex × Env}, evalC (run T S) LL c e = some r → ∃ n, evalC (runK T S n) (LN n) c e = some r := by
  intro c
  induction c with
  | skip => intro e r h; exact ⟨0, h⟩
  | exit id => intro e r h; exact ⟨0, h⟩
  | ret => intro e r h; exact ⟨0, h⟩
  | clr keep => intro e r h; exact ⟨0, h⟩
  | reg ks ops =>
    intro e r h
    simp only [evalC] at h
    cases h1 : evalOps (run T S) ops (e.kill ks) with
    | none => simp [h1] at h
    | some e1 =>
      simp only [h1] at h
      obtain ⟨n, hn⟩ := evalOps_back h1
      exact ⟨n, by simp only [evalC, hn]; exact h⟩
  | seq a b iha ihb =>
    intro e r h
    simp only [evalC] at h
    cases h1 : evalC (run T S) LL a e with
    | none => simp [h1] at h
    | some q =>
      obtain ⟨x, e1⟩ := q
      obtain ⟨n, hn⟩ := iha h1
      cases x <;> simp only [h1] at h
      · obtain ⟨m, hm⟩ := ihb h
        refine ⟨max n m, ?_⟩
        simp only [evalC, evalC_mono (runK_le (Nat.le_max_left n m)) (LN_le (Nat.le_max_left n m)) a hn]
        exact evalC_mono (runK_le (Nat.le_max_right n m)) (LN_le (Nat.le_max_right n m)) b hm
      · exact ⟨n, by simp only [evalC, hn]; exact h⟩
      · exact ⟨n, by simp only [evalC, hn]; exact h⟩
  | cond x a b iha ihb =>
    intro e r h
    simp only [evalC] at h
    cases hb : e.get x <;> simp only [hb] at h <;> try (cases h; done)
    split at h
    · rename_i hh
      obtain ⟨n, hn⟩ := iha h
      exact ⟨n, by simp only [evalC, hb]; rw [if_pos hh]; exact hn⟩
    · rename_i hh
      obtain ⟨n, hn⟩ := ihb h
      exact ⟨n, by simp only [evalC, hb]; rw [if_neg hh]; exact hn⟩
  | blk id a iha =>
    intro e r h
    simp only [evalC] at h
    cases h1 : evalC (run T S) LL a e with
    | none => simp [h1] at h
    | some q =>
      obtain ⟨n, hn⟩ := iha h1
      rw [h1] at h
      exact ⟨n, by simp only [evalC, hn]; exact h⟩
  | chk ρ ν a iha =>
    intro e r h
    simp only [evalC] at h
    split at h
    · rename_i hh
      obtain ⟨n, hn⟩ := iha h
      exact ⟨n, by simp only [evalC]; rw [if_pos hh]; exact hn⟩
    · cases h
  | loop a iha =>
    intro e r h
    simp only [evalC] at h
    obtain ⟨m, hm⟩ := LL_some h
    have key : ∀ (m : Nat) (e : Env), loopN (evalC (run T S) LL a) m e = some r → ∃ n, loopN (evalC (runK T S n) (LN n) a) m e = some r := by
      intro m
      induction m with
      | zero => intro e h; simp [loopN] at h
      | succ m ih =>
        intro e h
        simp only [loopN] at h
        cases h1 : evalC (run T S) LL a e with
        | none => simp [h1] at h
        | some q =>
          obtain ⟨x, e1⟩ := q
          obtain ⟨n, hn⟩ := iha h1
          cases x <;> simp only [h1] at h
          · obtain ⟨n', hn'⟩ := ih e1 h
            refine ⟨max n n', ?_⟩
            simp only [loopN, evalC_mono (runK_le (Nat.le_max_left n n')) (LN_le (Nat.le_max_left n n')) a hn]
            exact loopN_mono (fun e r h => evalC_mono (runK_le (Nat.le_max_right n n')) (LN_le (Nat.le_max_right n n')) a h) (Nat.le_refl m) hn'
          · exact ⟨n, by simp only [loopN, hn]; exact h⟩
          · exact ⟨n, by simp only [loopN, hn]; exact h⟩
    obtain ⟨n, hn⟩ := key m e hm
    refine ⟨max n m, ?_⟩
    simp only [evalC]
    exact loopN_mono (fun e r h => evalC_mono (runK_le (Nat.le_max_left n m)) (LN_le (Nat.le_max_left n m)) a h) (Nat.le_max_right n m) hn

theorem evalF_back {F : F} {as : List AV} {r : AV} (h : evalF (run T S) LL F as = some r) : ∃ n, evalF (runK T S n) (LN n) F as = some r := by
  unfold evalF at h
  split at h
  · rename_i hh
    cases h1 : evalC (run T S) LL F.body (F.start as) with
    | none => simp [h1] at h
    | some q =>
      obtain ⟨n, hn⟩ := evalC_back _ h1
      refine ⟨n, ?_⟩
      unfold evalF
      rw [if_pos hh, hn]; rw [h1] at h; exact h
  · cases h

/-- **What a function gives.** -/
theorem run_eq {f : Nat} {F : F} (hf : T f = some F) {as : List AV} {r : AV} (h : evalF (run T S) LL F as = some r) : run T S f as = some r := by
  obtain ⟨n, hn⟩ := evalF_back h
  exact run_of (n := n + 1) (by rw [runK_succ, hf]; exact hn)

theorem run_ext {f : Nat} (hf : T f = none) {as : List AV} {r : AV} (h : S f as = some r) : run T S f as = some r :=
  run_of (n := 1) (by rw [runK_succ, hf]; exact h)

theorem run_sound {P : Program} (hm : P.follows .mixedOrders = true) (hT : ∀ f F, T f = some F → compF P f = some F) (hS : VSound P S) : VSound P (run T S) := fun f as r h => by
  obtain ⟨n, hn⟩ := run_some h
  exact runK_sound hm hT hS n f as r hn

end Go.Bv
