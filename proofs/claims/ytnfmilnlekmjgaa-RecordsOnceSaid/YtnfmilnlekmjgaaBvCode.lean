/- BY VALUE, part 13: code and functions. -/
import Derived.Test.YtnfmilnlekmjgaaBvReg7
import Derived.LoopN
import Derived.Scope
set_option linter.unusedVariables false
set_option linter.unusedSimpArgs false
namespace Go.Bv
open Go.RowKit

def killOf (cs : List OP) : List Nat := cs.filterMap fun c => if c.op.makes then c.dst else none

/-- The slots at which a region's stores and loads begin, and where they lead: by guess (it is asked ahead of the region). -/
def guessBase (cs : List OP) : List Nat := cs.foldl (fun l c => match c.op with
  | .fa _ _ (.t s) => s :: l
  | .ld _ (.t s) => s :: l
  | .st _ (.t s) _ => s :: l
  | _ => l) []
def guessR (cs : List OP) : Roots :=
  let ds := cs.filterMap (·.dst)
  cs.foldl (fun ρ c => match c.dst, c.op with
    | some t, .fa _ _ (.t s) => (match ρ.find? (fun p => p.1 == s) with
      | some p => (t, p.2) :: ρ
      | none => ρ)
    | some t, .box .. => (t, t) :: ρ
    | some t, .new .. => (t, t) :: ρ
    | some t, .ia .. => (t, 1000000) :: ρ
    | _, _ => ρ) (((guessBase cs).eraseDups.filter (fun s => !ds.contains s)).map fun s => (s, s))
def guessN (cs : List OP) : List Nat := cs.filterMap fun c => if plainO c.op = true then c.dst else none
def regionC (ops : List Oper) (cs : List OP) : Option C :=
  if regOk ops cs (killOf cs) = true then some (.reg (killOf cs) cs)
  else if regOk2 (guessR cs) (guessN cs) ops cs (killOf cs) = true then some (.chk (guessR cs) (guessN cs) (.reg (killOf cs) cs)) else none

def compC (P : Program) : Code → Option C
  | .skip => some .skip
  | .label _ => some .skip
  | .region _ ops draw => match compOPs P ops ops.toList with
    | some cs => if draw = true then regionC ops.toList cs else some (.reg [] cs)
    | none => none
  | .seq a b => match compC P a, compC P b with
    | some x, some y => some (.seq x y)
    | _, _ => none
  | .cond c a b => match compX c, compC P a, compC P b with
    | some z, some x, some y => some (.cond z x y)
    | _, _, _ => none
  | .block id a => match compC P a with
    | some x => some (.blk id x)
    | none => none
  | .loop a => match compC P a with
    | some x => some (.loop x)
    | none => none
  | .exit id => some (.exit id)
  | .scope a => compC P a
  | .ret => some .ret
  | _ => none

/-! ### Which temporaries a loop's head needs -/
def union (a b : List Nat) : List Nat := a.foldl (fun s x => if s.contains x then s else x :: s) b
def minus (a : List Nat) (d : Option Nat) : List Nat := match d with
  | some d => a.filter fun x => x != d
  | none => a
def liveOps (ops : List OP) (out : List Nat) : List Nat := ops.foldr (fun c s => union c.reads (minus s c.dst)) out
def upd (ex : Nat → List Nat) (id : Nat) (l : List Nat) : Nat → List Nat := fun i => if i == id then l else ex i
def live (res : List Nat) : C → (Nat → List Nat) → List Nat → List Nat
  | .skip, _, out => out
  | .reg _ ops, _, out => liveOps ops out
  | .seq a b, ex, out => live res a ex (live res b ex out)
  | .cond x a b, ex, out => union x.tmp (union (live res a ex out) (live res b ex out))
  | .blk id a, ex, out => live res a (upd ex id out) out
  | .loop a, ex, _ => let x1 := live res a ex []; live res a ex x1
  | .exit id, ex, _ => ex id
  | .ret, _, _ => res
  | .clr _, _, out => out
  | .chk _ _ a, ex, out => live res a ex out
def mark (res : List Nat) : C → (Nat → List Nat) → List Nat → C
  | .seq a b, ex, out => .seq (mark res a ex (live res b ex out)) (mark res b ex out)
  | .cond x a b, ex, out => .cond x (mark res a ex out) (mark res b ex out)
  | .blk id a, ex, out => .blk id (mark res a (upd ex id out) out)
  | .loop a, ex, _ => let x1 := live res a ex []; let x2 := live res a ex x1; .loop (.seq (.clr x2) (mark res a ex x2))
  | c, _, _ => c
def RV.tmp' : RV → Nat
  | .tmp t => t
  | .tsl t _ _ => t
  | .cell t _ => t
  | .cell1 t => t
  | .cellf t .. => t

/-- The same code, but that temporaries may be given up. -/
inductive Marked : C → C → Prop where
  | refl (c : C) : Marked c c
  | seq {a b a' b' : C} : Marked a a' → Marked b b' → Marked (.seq a b) (.seq a' b')
  | cond {x : X} {a b a' b' : C} : Marked a a' → Marked b b' → Marked (.cond x a b) (.cond x a' b')
  | blk {id : Nat} {a a' : C} : Marked a a' → Marked (.blk id a) (.blk id a')
  | loop {a a' : C} (keep : List Nat) : Marked a a' → Marked (.loop a) (.loop (.seq (.clr keep) a'))

theorem Marked.seq_inv {a b k : C} (h : Marked (.seq a b) k) : ∃ a' b', k = .seq a' b' ∧ Marked a a' ∧ Marked b b' := by
  cases h with
  | refl => exact ⟨a, b, rfl, .refl _, .refl _⟩
  | seq h1 h2 => exact ⟨_, _, rfl, h1, h2⟩
theorem Marked.cond_inv {x : X} {a b k : C} (h : Marked (.cond x a b) k) : ∃ a' b', k = .cond x a' b' ∧ Marked a a' ∧ Marked b b' := by
  cases h with
  | refl => exact ⟨a, b, rfl, .refl _, .refl _⟩
  | cond h1 h2 => exact ⟨_, _, rfl, h1, h2⟩
theorem Marked.blk_inv {id : Nat} {a k : C} (h : Marked (.blk id a) k) : ∃ a', k = .blk id a' ∧ Marked a a' := by
  cases h with
  | refl => exact ⟨a, rfl, .refl _⟩
  | blk h1 => exact ⟨_, rfl, h1⟩
theorem Marked.loop_inv {a k : C} (h : Marked (.loop a) k) : (∃ a', k = .loop a' ∧ Marked a a') ∨ ∃ keep a', k = .loop (.seq (.clr keep) a') ∧ Marked a a' := by
  cases h with
  | refl => exact .inl ⟨a, rfl, .refl _⟩
  | loop keep h1 => exact .inr ⟨keep, _, rfl, h1⟩

theorem mark_marked (res : List Nat) : ∀ (c : C) (ex : Nat → List Nat) (out : List Nat), Marked c (mark res c ex out) := by
  intro c
  induction c with
  | seq a b iha ihb => intro ex out; exact .seq (iha _ _) (ihb _ _)
  | cond x a b iha ihb => intro ex out; exact .cond (iha _ _) (ihb _ _)
  | blk id a ih => intro ex out; exact .blk (ih _ _)
  | loop a ih => intro ex out; exact .loop _ (ih _ _)
  | _ => intro ex out; exact .refl _

def Ex.to : Ex → Exit
  | .normal => .normal
  | .exit id => .exit id
  | .ret => .ret

section
variable {P : Program} {base : Nat} {w0 : World} {ok0 : Nat → Nat → Prop} {e : Env} {a : Act} {w : World} {G : Gh}
variable {R : Nat → List AV → Option AV}

theorem keepT_get (e : Env) (keep : List Nat) : ∀ (l : List AV) (i t : Nat), t < l.length → (keepT e keep i l).getD t .unk = if keep.contains (i + t) = true then e.ren (l.getD t .unk) else .unk
  | [], i, t, h => by simp at h
  | A :: l, i, 0, h => by simp [keepT]
  | A :: l, i, t + 1, h => by
    have := keepT_get e keep l (i + 1) t (by simpa using h)
    simp only [keepT, List.getD_cons_succ, this]
    rw [show i + 1 + t = i + (t + 1) by omega]
theorem keepT_len (e : Env) (keep : List Nat) : ∀ (l : List AV) (i : Nat), (keepT e keep i l).length = l.length
  | [], _ => rfl
  | _ :: l, i => by simp [keepT, keepT_len e keep l (i + 1)]
theorem keepO_get (e : Env) (ks : List Nat) : ∀ (l : List AObj) (i t : Nat), (keepO e ks i l)[t]? = (l[t]?).map fun o => if ks.contains (i + t) = true then ⟨0, o.k.ren e⟩ else ⟨0, .dead⟩
  | [], i, t => by simp [keepO]
  | o :: l, i, 0 => by simp [keepO]
  | o :: l, i, t + 1 => by
    simp only [keepO, List.getElem?_cons_succ, keepO_get e ks l (i + 1) t]
    rw [show i + 1 + t = i + (t + 1) by omega]
theorem keepO_len (e : Env) (ks : List Nat) : ∀ (l : List AObj) (i : Nat), (keepO e ks i l).length = l.length
  | [], _ => rfl
  | _ :: l, i => by simp [keepO, keepO_len e ks l (i + 1)]

theorem norm_len (e : Env) (keep : List Nat) : (e.norm keep).objs.length = e.objs.length := keepO_len _ _ _ _
theorem norm_kind (e : Env) (keep : List Nat) (d : Nat) : (e.norm keep).kind d = .dead ∨ (e.norm keep).kind d = (e.kind d).ren e := by
  unfold Env.kind Env.norm
  simp only [keepO_get]
  cases e.objs[d]? with
  | none => exact .inl rfl
  | some o =>
    simp only [Option.map_some]
    split
    · exact .inr rfl
    · exact .inl rfl

theorem norm_rep {keep : List Nat} {v : Value} {A : AV} (h : RepT w G e v A) : RepT w G (e.norm keep) v (e.ren A) := by
  have hk : ∀ {d g : Nat} {k : OK}, (e.norm keep).ok? d 0 = some k → k.live = true → e.gen d = g → ∃ k', e.ok? d g = some k' ∧ k = k'.ren e := by
    intro d g k hh hl hg
    obtain ⟨h1, h2, h3⟩ := Env.ok?_eq hh
    rw [norm_len] at h1
    rcases norm_kind e keep d with h4 | h4
    · rw [h3] at h4; rw [h4] at hl; cases hl
    · exact ⟨e.kind d, Env.ok?_of h1 hg, by rw [← h3, h4]⟩
  cases A <;> simp only [Env.ren]
  case own d g =>
    split
    · rename_i hg
      refine ⟨by rw [norm_len]; exact h.1, Nat.zero_le _, fun E c f l hh => ?_⟩
      obtain ⟨k', q1, q2⟩ := hk hh rfl hg
      cases k' <;> simp only [OK.ren] at q2 <;> cases q2
      exact h.2.2 _ _ _ _ q1
    · exact RepR.unk _
  case ptr d g off =>
    split
    · rename_i hg
      refine ⟨by rw [norm_len]; exact h.1, Nat.zero_le _, fun l hh => ?_⟩
      obtain ⟨k', q1, q2⟩ := hk hh rfl hg
      cases k' <;> simp only [OK.ren] at q2 <;> cases q2
      exact h.2.2 _ q1
    · exact RepR.unk _
  case rp d g i j =>
    split
    · rename_i hg
      refine ⟨by rw [norm_len]; exact h.1, Nat.zero_le _, fun E c f l hh => ?_⟩
      obtain ⟨k', q1, q2⟩ := hk hh rfl hg
      cases k' <;> simp only [OK.ren] at q2 <;> cases q2
      exact h.2.2 _ _ _ _ q1
    · exact RepR.unk _
  case aggo j d g l =>
    split
    · rename_i hg
      obtain ⟨q0, _, vs, q1, q2, q3, q4, q5, q6⟩ := h
      refine ⟨by rw [norm_len]; exact q0, Nat.zero_le _, vs, q1, q2, q3, q4, q5, fun E c f m hh => ?_⟩
      obtain ⟨k', r1, r2⟩ := hk hh rfl hg
      cases k' <;> simp only [OK.ren] at r2 <;> cases r2
      exact q6 _ _ _ _ r1
    · exact RepR.unk _
  all_goals exact h

theorem ren_cell1 {A : AV} (h : A.cell1 = true) : (e.ren A).cell1 = true := by
  cases A <;> simp only [Env.ren] <;> first | exact h | (split <;> first | rfl | exact h)

theorem Rel.norm (h : Rel base w0 ok0 e a w G) (keep : List Nat) : Rel base w0 ok0 (e.norm keep) a w G := by
  refine ⟨h.below, h.base_le, ?_, fun t ht => ?_, h.defers, h.okb, h.ok0, fun d hd => ?_, fun d d' hd hd' h1 h2 => ?_⟩
  · rw [h.size]; exact (keepT_len _ _ _ _).symm
  · have ht' : t < e.tmps.length := by
      have : (e.norm keep).tmps.length = e.tmps.length := keepT_len _ _ _ _
      omega
    have : (e.norm keep).tmps.getD t .unk = _ := keepT_get e keep e.tmps 0 t ht'
    rw [this]
    split
    · exact norm_rep (h.tmps t ht')
    · exact RepR.unk _
  · rw [norm_len] at hd
    rcases norm_kind e keep d with h1 | h1
    · rw [h1]; trivial
    · rw [h1]
      have := h.objs d hd
      cases hk : e.kind d with
      | dead => trivial
      | row E c f l => rw [hk] at this; exact this
      | box l =>
        rw [hk] at this
        obtain ⟨b, vs, T, q1, q2, q3, q4, q5, q6⟩ := this
        refine ⟨b, vs, T, q1, q2, q3, by simpa using q4, fun j hj => ?_, q6⟩
        have hj' : j < l.length := by simpa using hj
        have e1 : (l.map e.ren).getD j .unk = e.ren (l.getD j .unk) := by
          simp [List.getD_eq_getElem?_getD, List.getElem?_eq_getElem hj']
        rw [e1]
        exact ⟨norm_rep (q5 j hj').1, ren_cell1 (q5 j hj').2⟩
  · rw [norm_len] at hd hd'
    have live : ∀ d, ((e.norm keep).kind d).live = true → (e.kind d).live = true := fun d hh => by
      rcases norm_kind e keep d with h3 | h3
      · rw [h3] at hh; cases hh
      · rw [h3] at hh
        cases hk : e.kind d <;> rw [hk] at hh <;> first | rfl | exact hh
    exact h.inj d d' hd hd' (live d h1) (live d' h2)

/-- The code does what the evaluator says. -/
theorem simC (hm : P.follows .mixedOrders = true) (hR : VSound P R) (n : Nat) : ∀ (c : Code) (k0 k : C), compC P c = some k0 → Marked k0 k → ∀ (e : Env) (a : Act) (w : World) (G : Gh) (x : Ex) (e' : Env) (Q : Exit → Act → World → Prop),
    Rel base w0 ok0 e a w G → evalC R (fun b e => loopN b n e) k e = some (x, e') → (∀ a' w' G', Rel base w0 ok0 e' a' w' G' → Q x.to a' w') → c.wp P Q a w := by
  intro c
  induction c with
  | skip =>
    intro k0 k hk hM e a w G x e' Q h he hQ
    simp only [compC, Option.some.injEq] at hk; subst hk; cases hM
    simp only [evalC, Option.some.injEq, Prod.mk.injEq] at he
    obtain ⟨rfl, rfl⟩ := he
    exact wp_skip (hQ _ _ _ h)
  | label l =>
    intro k0 k hk hM e a w G x e' Q h he hQ
    simp only [compC, Option.some.injEq] at hk; subst hk; cases hM
    simp only [evalC, Option.some.injEq, Prod.mk.injEq] at he
    obtain ⟨rfl, rfl⟩ := he
    exact wp_label (hQ _ _ _ h)
  | region id ops draw =>
    intro k0 k hk hM e a w G x e' Q h he hQ
    simp only [compC] at hk
    cases hcs : compOPs P ops ops.toList with
    | none => simp [hcs] at hk
    | some cs =>
      simp only [hcs] at hk
      cases draw with
      | false =>
        simp only [Bool.false_eq_true, if_false, Option.some.injEq] at hk
        subst hk
        cases hM
        simp only [evalC] at he
        cases hev : evalOps R cs (e.kill []) with
        | none => simp [hev] at he
        | some e1 =>
          simp only [hev, Option.some.injEq, Prod.mk.injEq] at he
          obtain ⟨rfl, rfl⟩ := he
          exact sim_region hR h hcs hev hQ
      | true =>
        simp only [if_true] at hk
        unfold regionC at hk
        by_cases hok : regOk ops.toList cs (killOf cs) = true
        · rw [if_pos hok] at hk
          simp only [Option.some.injEq] at hk
          subst hk
          cases hM
          simp only [evalC] at he
          cases hev : evalOps R cs (e.kill (killOf cs)) with
          | none => simp [hev] at he
          | some e1 =>
            simp only [hev, Option.some.injEq, Prod.mk.injEq] at he
            obtain ⟨rfl, rfl⟩ := he
            exact sim_drawn hm hR h hcs hok ⟨fun p hp => absurd hp (by simp), fun t ht => absurd ht (by simp)⟩ hev hQ
        · rw [if_neg hok] at hk
          by_cases hok2 : regOk2 (guessR cs) (guessN cs) ops.toList cs (killOf cs) = true
          case neg => rw [if_neg hok2] at hk; cases hk
          rw [if_pos hok2] at hk
          simp only [Option.some.injEq] at hk
          subst hk
          cases hM
          simp only [evalC] at he
          by_cases hask : askedB (guessR cs) (guessN cs) e = true
          case neg => rw [if_neg hask] at he; cases he
          rw [if_pos hask] at he
          have hask' : askedB (guessR cs) (guessN cs) (e.kill (killOf cs)) = true := hask
          cases hev : evalOps R cs (e.kill (killOf cs)) with
          | none => simp [hev] at he
          | some e1 =>
            simp only [hev, Option.some.injEq, Prod.mk.injEq] at he
            obtain ⟨rfl, rfl⟩ := he
            exact sim_drawn hm hR h hcs hok2 (asked_of _ _ hask') hev hQ
  | seq c1 c2 ih1 ih2 =>
    intro k0 k hk hM e a w G x e' Q h he hQ
    simp only [compC] at hk
    cases h1 : compC P c1 with
    | none => simp [h1] at hk
    | some k1 =>
      cases h2 : compC P c2 with
      | none => simp [h1, h2] at hk
      | some k2 =>
        simp only [h1, h2, Option.some.injEq] at hk
        subst hk
        obtain ⟨k1', k2', rfl, m1, m2⟩ := hM.seq_inv
        simp only [evalC] at he
        cases hev : evalC R (fun b e => loopN b n e) k1' e with
        | none => simp [hev] at he
        | some r =>
          obtain ⟨x1, e1⟩ := r
          cases x1 with
          | normal =>
            simp only [hev] at he
            exact wp_seq (ih1 k1 _ h1 m1 e a w G .normal e1 _ h hev (fun a' w' G' h' => ih2 k2 _ h2 m2 e1 a' w' G' x e' Q h' he hQ))
          | exit id =>
            simp only [hev, Option.some.injEq, Prod.mk.injEq] at he
            obtain ⟨rfl, rfl⟩ := he
            exact wp_seq (ih1 k1 _ h1 m1 e a w G (.exit id) e1 _ h hev (fun a' w' G' h' => hQ _ _ _ h'))
          | ret =>
            simp only [hev, Option.some.injEq, Prod.mk.injEq] at he
            obtain ⟨rfl, rfl⟩ := he
            exact wp_seq (ih1 k1 _ h1 m1 e a w G .ret e1 _ h hev (fun a' w' G' h' => hQ _ _ _ h'))
  | cond c c1 c2 ih1 ih2 =>
    intro k0 k hk hM e a w G x e' Q h he hQ
    simp only [compC] at hk
    cases h0 : compX c with
    | none => simp [h0] at hk
    | some z =>
      cases h1 : compC P c1 with
      | none => simp [h0, h1] at hk
      | some k1 =>
        cases h2 : compC P c2 with
        | none => simp [h0, h1, h2] at hk
        | some k2 =>
          simp only [h0, h1, h2, Option.some.injEq] at hk
          subst hk
          obtain ⟨k1', k2', rfl, m1, m2⟩ := hM.cond_inv
          simp only [evalC] at he
          have hc := compX_rep h0 h
          cases hz : e.get z <;> simp only [hz] at he hc <;> try (cases he; done)
          rename_i v
          refine wp_cond (inv_bool hc) ?_
          cases v with
          | true => exact ih1 k1 _ h1 m1 e a w G x e' Q h he hQ
          | false => exact ih2 k2 _ h2 m2 e a w G x e' Q h he hQ
  | block id c ih =>
    intro k0 k hk hM e a w G x e' Q h he hQ
    simp only [compC] at hk
    cases h1 : compC P c with
    | none => simp [h1] at hk
    | some k1 =>
      simp only [h1, Option.some.injEq] at hk
      subst hk
      obtain ⟨k1', rfl, m1⟩ := hM.blk_inv
      simp only [evalC] at he
      cases hev : evalC R (fun b e => loopN b n e) k1' e with
      | none => simp [hev] at he
      | some r =>
        obtain ⟨x1, e1⟩ := r
        refine wp_block (ih k1 _ h1 m1 e a w G x1 e1 _ h hev (fun a' w' G' h' => ?_))
        cases x1 with
        | normal =>
          simp only [hev, Option.some.injEq, Prod.mk.injEq] at he
          obtain ⟨rfl, rfl⟩ := he
          exact hQ _ _ _ h'
        | exit id' =>
          simp only [hev] at he
          show (if id' = id then Q .normal a' w' else Q (.exit id') a' w')
          by_cases hid : id' = id
          · rw [if_pos hid] at he ⊢
            simp only [Option.some.injEq, Prod.mk.injEq] at he
            obtain ⟨rfl, rfl⟩ := he
            exact hQ _ _ _ h'
          · rw [if_neg hid] at he ⊢
            simp only [Option.some.injEq, Prod.mk.injEq] at he
            obtain ⟨rfl, rfl⟩ := he
            exact hQ _ _ _ h'
        | ret =>
          simp only [hev, Option.some.injEq, Prod.mk.injEq] at he
          obtain ⟨rfl, rfl⟩ := he
          exact hQ _ _ _ h'
  | loop c ih =>
    intro k0 k hk hM e a w G x e' Q h he hQ
    simp only [compC] at hk
    cases h1 : compC P c with
    | none => simp [h1] at hk
    | some k1 =>
      simp only [h1, Option.some.injEq] at hk
      subst hk
      have key : ∀ (k1' : C), (∀ (e : Env) (a : Act) (w : World) (G : Gh) (x : Ex) (e' : Env) (Q : Exit → Act → World → Prop), Rel base w0 ok0 e a w G → evalC R (fun b e => loopN b n e) k1' e = some (x, e') →
            (∀ a' w' G', Rel base w0 ok0 e' a' w' G' → Q x.to a' w') → c.wp P Q a w) →
          ∀ (m : Nat) (e : Env) (a : Act) (w : World) (G : Gh), Rel base w0 ok0 e a w G → loopN (evalC R (fun b e => loopN b n e) k1') m e = some (x, e') → Code.rounds P c Q m a w := by
        intro k1' hbody m
        induction m with
        | zero => intro e a w G h he; simp [loopN] at he
        | succ m ihm =>
          intro e a w G h he
          simp only [loopN] at he
          rw [rounds_succ]
          cases hev : evalC R (fun b e => loopN b n e) k1' e with
          | none => simp [hev] at he
          | some r =>
            obtain ⟨x1, e1⟩ := r
            refine hbody e a w G x1 e1 _ h hev (fun a' w' G' h' => ?_)
            cases x1 with
            | normal => simp only [hev] at he; exact ihm e1 a' w' G' h' he
            | exit id =>
              simp only [hev, Option.some.injEq, Prod.mk.injEq] at he
              obtain ⟨rfl, rfl⟩ := he
              exact hQ _ _ _ h'
            | ret =>
              simp only [hev, Option.some.injEq, Prod.mk.injEq] at he
              obtain ⟨rfl, rfl⟩ := he
              exact hQ _ _ _ h'
      rcases hM.loop_inv with ⟨k1', rfl, m1⟩ | ⟨keep, k1', rfl, m1⟩
      · simp only [evalC] at he
        exact wp_loop_rounds n (key k1' (fun e a w G x e' Q => ih k1 k1' h1 m1 e a w G x e' Q) n e a w G h he)
      · simp only [evalC] at he
        refine wp_loop_rounds n (key (.seq (.clr keep) k1') (fun e a w G x e' Q h he hQ => ?_) n e a w G h he)
        simp only [evalC] at he
        have he' : evalC R (fun b e => loopN b n e) k1' (e.norm keep) = some (x, e') := he
        exact ih k1 k1' h1 m1 _ a w G x e' Q (h.norm keep) he' hQ
  | exit id =>
    intro k0 k hk hM e a w G x e' Q h he hQ
    simp only [compC, Option.some.injEq] at hk; subst hk; cases hM
    simp only [evalC, Option.some.injEq, Prod.mk.injEq] at he
    obtain ⟨rfl, rfl⟩ := he
    exact wp_exit (hQ _ _ _ h)
  | scope c ih =>
    intro k0 k hk hM e a w G x e' Q h he hQ
    simp only [compC] at hk
    refine wp_scope_straight (ih k0 k hk hM e a w G x e' _ h he (fun a' w' G' h' => ?_))
    have := hQ a' w' G' h'
    cases x <;> exact this
  | ret =>
    intro k0 k hk hM e a w G x e' Q h he hQ
    simp only [compC, Option.some.injEq] at hk; subst hk; cases hM
    simp only [evalC, Option.some.injEq, Prod.mk.injEq] at he
    obtain ⟨rfl, rfl⟩ := he
    exact wp_ret (hQ _ _ _ h)
  | _ =>
    intro k0 k hk
    simp [compC] at hk

/-! ### Functions -/
def compRV (P : Program) : ResultVar → Option RV
  | .tmp t => some (.tmp t)
  | .cell a t => match P.underlying t, sizeOf? P t with
    | some d, some n => match d with
      | .struct _ => some (.cell a n)
      | .array _ _ => some (.cell a n)
      | _ => some (.cell1 a)
    | _, _ => none

/-- Functions that hand out a struct with a row of its own in this cell. -/
def freshCell (name : String) : Option Nat :=
  if (name == "midrange/midrangebase.OwnTable") = true then some 5 else none
def freshRV (P : Program) (fn : Func) (j a t : Nat) : Option RV := match P.underlying t, sizeOf? P t with
  | some (.struct fields), some n => match fields.toList.find? (fun f => f.offset == j) with
    | some fd => match P.underlying fd.type with
      | some (.slice E) => (sizeOf? P E).map fun c => .cellf a n j E c
      | _ => none
    | none => none
  | _, _ => none
def compRVs (P : Program) (fn : Func) : List ResultVar → Option (List RV)
  | [.cell a t] => match freshCell fn.name with
      | some j => (freshRV P fn j a t).map ([·])
      | none => (compRV P (.cell a t)).map ([·])
  | [.tmp t] => match (fn.resultTypes[0]?).bind P.underlying with
      | some (.slice E) => (sizeOf? P E).map fun c => [.tsl t E c]
      | _ => some [.tmp t]
  | rs => rs.mapM (compRV P)

def compF (P : Program) (f : Nat) : Option F :=
  match P.funcs[f]? with
  | some fn => match fn.body with
    | some c => if (fn.name == "runtime.NumGoroutine") = true then none else match compC P c, compRVs P fn fn.results.toList with
      | some k, some rs => some ⟨fn.params.size + fn.nfree, fn.ntmps, rs, mark (rs.map RV.tmp') k (fun _ => []) (rs.map RV.tmp')⟩
      | _, _ => none
    | none => none
  | none => none

def resRun (tmps : Array Value) : ResultVar → Sem Value
  | .tmp t => pure (tmps.getD t undef)
  | .cell a t => do loadVar t (← asAddr (tmps.getD a undef))

theorem listM_run {g : ResultVar → Sem Value} {w : World} {v : ResultVar → Value} : ∀ (rs : List ResultVar), (∀ r ∈ rs, (g r).run P w = .ok (v r) w) → (rs.mapM g).run P w = .ok (rs.map v) w
  | [], _ => rfl
  | r :: rs, h => by
    rw [List.mapM_cons]
    simp only [Sem.run_bind, h r (by simp), Result.andThen_ok, listM_run rs (fun q hq => h q (by simp [hq])), Sem.run_pure]
    rfl

theorem results_run {fn : Func} {tmps : Array Value} {w : World} {v : ResultVar → Value} (h : ∀ r ∈ fn.results.toList, (resRun tmps r).run P w = .ok (v r) w) :
    (Go.results fn tmps).run P w = .ok (if hs : (fn.results.toList.map v).length = 1 then (fn.results.toList.map v)[0] else .tuple (fn.results.toList.map v).toArray) w := by
  have h1 : Go.results fn tmps = (do let vs ← fn.results.mapM (resRun tmps); pure (if hh : vs.size = 1 then vs[0] else .tuple vs)) := by
    unfold Go.results
    congr 1
  rw [h1, Array.mapM_eq_mapM_toList]
  simp only [Sem.run_bind, map_eq_pure_bind, bind_assoc, pure_bind, listM_run _ h, Result.andThen_ok, Sem.run_pure]
  congr 1

theorem results_one {fn : Func} {t : Tmp} (h : fn.results.toList = [.tmp t]) (tmps : Array Value) (w : World) : (Go.results fn tmps).run P w = .ok (tmps.getD t undef) w := by
  have : fn.results = #[.tmp t] := Array.ext' (by simpa using h)
  simp [Go.results, this]

theorem Rel.after (h : Rel base w0 ok0 e a w G) (x : Option Nat) (ks : List Nat) (hx : ∀ b, x = some b → ∀ o, ¬ (G.frz e ks).ok b o) {b o : Nat} (hb : (G.frz e ks).ok b o) : okAfter base ok0 w x b o := by
  have hf := h.freeze ks
  rcases Nat.lt_or_ge b base with hlt | hge
  · exact .inl ⟨hlt, (hf.ok0 b o hlt).1 hb⟩
  · exact .inr ⟨hge, hf.okb b o hb, fun hh => hx b hh.symm o hb⟩

theorem arg_after (h : Rel base w0 ok0 e a w G) {v : Value} {A B : AV} {ks : List Nat} (hA : RepT w G e v A) (hv : e.arg A = some (B, ks)) : RepR w (okAfter base ok0 w none) v B :=
  (arg_rep h hA hv).mono (fun b o hb => h.after none ks (fun b hh => by cases hh) hb) (fun _ _ _ => SameAt.refl)

theorem pure_isFr {A : AV} (h : A.pure = true) : A.isFr = false := by cases A <;> first | rfl | (simp [AV.pure] at h)
theorem arg_not_fr {A B : AV} {ks : List Nat} (hv : e.arg A = some (B, ks)) : B.isFr = false := by
  by_cases hagg : ∃ l, A = .agg l
  · obtain ⟨l, rfl⟩ := hagg
    simp only [Env.arg] at hv
    cases h1 : e.views l with
    | none => simp [h1] at hv
    | some r =>
      simp only [h1, Option.some.injEq, Prod.mk.injEq] at hv
      rw [← hv.1]; rfl
  by_cases hago : ∃ j d g l0, A = .aggo j d g l0
  · obtain ⟨j, d, g, l0, rfl⟩ := hago
    simp only [Env.arg] at hv
    cases h1 : e.views (l0.set j (.own d g)) with
    | none => simp [h1] at hv
    | some r =>
      simp only [h1, Option.some.injEq, Prod.mk.injEq] at hv
      rw [← hv.1]; rfl
  · have : e.arg A = match e.view1 A with
        | some (B, ks) => some (B.norm, ks)
        | none => none := by cases A <;> first | rfl | exact absurd ⟨_, rfl⟩ hagg | exact absurd ⟨_, _, _, _, rfl⟩ hago
    rw [this] at hv
    cases h1 : e.view1 A with
    | none => simp [h1] at hv
    | some r =>
      obtain ⟨m, k⟩ := r
      simp only [h1, Option.some.injEq, Prod.mk.injEq] at hv
      have h2 := AV.norm_pure (view1_keys h1).2
      rw [hv.1] at h2
      exact pure_isFr h2

theorem tmps_rep (h : Rel base w0 ok0 e a w G) (t : Nat) : RepT w G e (a.tmps.getD t undef) (e.tmps.getD t .unk) := by
  rcases Nat.lt_or_ge t e.tmps.length with ht | ht
  · exact h.tmps t ht
  · rw [List.getD_eq_getElem?_getD, List.getElem?_eq_none ht]; exact RepR.unk _

theorem mapM_cons' {α β : Type} {f : α → Option β} {x : α} {l : List α} {m : List β} (h : (x :: l).mapM f = some m) : ∃ y m', f x = some y ∧ l.mapM f = some m' ∧ m = y :: m' := by
  rw [List.mapM_cons] at h
  cases h1 : f x with
  | none => simp [h1] at h
  | some y =>
    cases h2 : l.mapM f with
    | none => simp [h1, h2] at h
    | some m' => simp [h1, h2] at h; exact ⟨y, m', rfl, rfl, h.symm⟩

theorem resT_rep (h : Rel base w0 ok0 e a w G) {r : ResultVar} {rv : RV} (hc : compRV P r = some rv) {A : AV} {ks : List Nat} (hr : resT e rv = some (A, ks)) :
    ∃ v, (resRun a.tmps r).run P w = .ok v w ∧ RepR w (okAfter base ok0 w none) v A ∧ A.isFr = false := by
  cases r with
  | tmp t =>
    simp only [compRV, Option.some.injEq] at hc
    subst hc
    exact ⟨_, rfl, arg_after h (tmps_rep h t) hr, arg_not_fr hr⟩
  | cell x t =>
    simp only [compRV] at hc
    cases h1 : P.underlying t with
    | none => simp [h1] at hc
    | some d =>
      cases h2 : sizeOf? P t with
      | none => simp [h1, h2] at hc
      | some n =>
        simp only [h1, h2] at hc
        have hT := tmps_rep h x
        have load : ∀ {ad : Addr} {v : Value}, a.tmps.getD x undef = .pointer (some ad) → (loadVar t ad).run P w = .ok v w → (resRun a.tmps (.cell x t)).run P w = .ok v w := by
          intro ad v e1 e2
          simp only [resRun, e1, asAddr, pure_bind, e2]
        have agg : rv = .cell x n → ((∃ fs, d = .struct fs) ∨ ∃ n el, d = .array n el) → ∃ v, (resRun a.tmps (.cell x t)).run P w = .ok v w ∧ RepR w (okAfter base ok0 w none) v A ∧ A.isFr = false := by
          intro hrv hs
          subst hrv
          simp only [resT] at hr
          cases hA : e.tmps.getD x .unk <;> simp only [hA] at hr hT <;> try (cases hr; done)
          rename_i d' g off
          cases hk : e.ok? d' g with
          | none => simp [hk] at hr
          | some k =>
            cases k <;> simp only [hk] at hr <;> try (cases hr; done)
            rename_i l
            by_cases hb : off + n ≤ l.length
            case neg => rw [if_neg hb] at hr; cases hr
            rw [if_pos hb] at hr
            cases hv : e.views ((l.drop off).take n) with
            | none => simp [hv] at hr
            | some q =>
              obtain ⟨m, ks'⟩ := q
              simp only [hv, Option.some.injEq, Prod.mk.injEq] at hr
              obtain ⟨rfl, rfl⟩ := hr
              obtain ⟨b, vs, T, q1, q2, q3, q4, q5, q6, q7⟩ := box_cells h hk
              obtain ⟨b', q1', hv'⟩ := hT.2.2 l hk
              have : b = b' := by rw [q1] at q1'; simpa using q1'
              subst this
              obtain ⟨i1, i2⟩ := views_rep h (vs := fun j => vs.getD (off + j) undef) (fun j hj => by
                rw [take_drop_len l off n hb] at hj
                rw [drop_take_getD l off n j hj hb]
                exact (q5 (off + j) (by omega)).1) hv
              rw [take_drop_len l off n hb] at i1
              refine ⟨_, load hv' (run_loadVar_agg h1 hs h2 (f := fun j => vs.getD (off + j) undef) (fun j hj => q7 (off + j) (by omega))), ?_, rfl⟩
              refine RepR.mono (ok := (G.frz e ks').ok) (fun b o hb => h.after none ks' (fun b hh => by cases hh) hb) (fun _ _ _ => SameAt.refl) ?_
              refine RepR.aggNorm (by simp [i1]) (fun j hj => ?_)
              rw [range_getD n _ j (by omega)]
              exact i2 j (by omega)
        have one : rv = .cell1 x → (∀ fs, d ≠ .struct fs) → (∀ n el, d ≠ .array n el) → ∃ v, (resRun a.tmps (.cell x t)).run P w = .ok v w ∧ RepR w (okAfter base ok0 w none) v A ∧ A.isFr = false := by
          intro hrv hs hn
          subst hrv
          simp only [resT] at hr
          cases hA : e.tmps.getD x .unk <;> simp only [hA] at hr hT <;> try (cases hr; done)
          rename_i d' g off
          cases hk : e.ok? d' g with
          | none => simp [hk] at hr
          | some k =>
            cases k <;> simp only [hk] at hr <;> try (cases hr; done)
            rename_i l
            cases hl : l[off]? with
            | none => simp [hl] at hr
            | some B =>
              simp only [hl] at hr
              cases hv : e.view1 B with
              | none => simp [hv] at hr
              | some q =>
                obtain ⟨D, ks'⟩ := q
                simp only [hv, Option.some.injEq, Prod.mk.injEq] at hr
                obtain ⟨rfl, rfl⟩ := hr
                obtain ⟨b, vs, T, q1, q2, q3, q4, q5, q6, q7⟩ := box_cells h hk
                obtain ⟨b', q1', hv'⟩ := hT.2.2 l hk
                have : b = b' := by rw [q1] at q1'; simpa using q1'
                subst this
                have hlt : off < l.length := (List.getElem?_eq_some_iff.1 hl).1
                have hB : l.getD off .unk = B := by simp [List.getD_eq_getElem?_getD, hl]
                have hrep := (view1_rep h (by rw [← hB]; exact (q5 off hlt).1) hv).1
                refine ⟨_, load hv' (run_loadVar_one h1 hs hn (q7 off hlt)), ?_, ?_⟩
                · exact (RepR.norm hrep).mono (fun b o hb => h.after none ks' (fun b hh => by cases hh) hb) (fun _ _ _ => SameAt.refl)
                · exact pure_isFr (AV.norm_pure (view1_keys hv).2)
        cases d <;> simp only [Option.some.injEq] at hc <;> first
          | exact agg hc.symm (.inl ⟨_, rfl⟩)
          | exact agg hc.symm (.inr ⟨_, _, rfl⟩)
          | exact one hc.symm (fun _ hh => by cases hh) (fun _ _ hh => by cases hh)

theorem resTs_rep (h : Rel base w0 ok0 e a w G) : ∀ {rs : List ResultVar} {rvs : List RV} {l : List AV}, rs.mapM (compRV P) = some rvs → resTs e rvs = some l →
    ∃ v : ResultVar → Value, (∀ r ∈ rs, (resRun a.tmps r).run P w = .ok (v r) w) ∧ l.length = rs.length ∧ ∀ j, j < l.length → RepR w (okAfter base ok0 w none) ((rs.map v).getD j undef) (l.getD j .unk)
  | [], rvs, l, hm, he => by simp at hm; subst hm; simp [resTs] at he; subst he; exact ⟨fun _ => undef, fun r hr => absurd hr (by simp), rfl, fun j hj => absurd hj (by simp)⟩
  | r :: rs, rvs, l, hm, he => by
    obtain ⟨rv, rvs', c1, c2, rfl⟩ := mapM_cons' hm
    simp only [resTs] at he
    cases h1 : resT e rv with
    | none => simp only [h1] at he; cases he
    | some q =>
      obtain ⟨A, ks⟩ := q
      simp only [h1] at he
      cases h2 : resTs e rvs' with
      | none => simp [h2] at he
      | some m =>
        simp only [h2, Option.some.injEq] at he
        subst he
        obtain ⟨v, j1, j2, j3⟩ := resTs_rep h c2 h2
        obtain ⟨u, k1, k2, _⟩ := resT_rep h c1 h1
        -- what a result variable gives doesn't hang on its place
        classical
        refine ⟨fun q => if q = r then u else v q, fun q hq => ?_, by simp [j2], fun j hj => ?_⟩
        · by_cases hqr : q = r
          · subst hqr; simp only [if_true]; exact k1
          · simp only [if_neg hqr]
            rcases List.mem_cons.1 hq with rfl | hq
            · exact absurd rfl hqr
            · exact j1 q hq
        · cases j with
          | zero => simpa using k2
          | succ j =>
            have hj' : j < m.length := by simpa using hj
            have hjr : j < rs.length := by omega
            have h3 := j3 j hj'
            simp only [List.getD_eq_getElem?_getD, List.getElem?_map, List.getElem?_eq_getElem hjr, List.map_cons, List.getElem?_cons_succ, Option.map_some, Option.getD_some] at h3 ⊢
            by_cases hqr : rs[j] = r
            · rw [if_pos hqr]
              have h4 := j1 rs[j] (List.getElem_mem hjr)
              rw [hqr] at h4
              rw [k1] at h4
              have : u = v r := by simpa using h4
              rw [this, ← hqr]; exact h3
            · rw [if_neg hqr]; exact h3

/-- A struct, a row of its own in it. -/
theorem resF_rep (h : Rel base w0 ok0 e a w G) {fn : Func} {x t n j E c : Nat} {fields : Array Field} (hres : fn.results.toList = [.cell x t]) (hu : P.underlying t = some (.struct fields)) (hz : sizeOf? P t = some n) {r : AV} (hr : Bv.results e [.cellf x n j E c] = some r) :
    ∃ v, (Go.results fn a.tmps).run P w = .ok v w ∧ RepRes base ok0 w v r := by
  simp only [Bv.results, resF] at hr
  have hT := tmps_rep h x
  have load : ∀ {ad : Addr} {v : Value}, a.tmps.getD x undef = .pointer (some ad) → (loadVar t ad).run P w = .ok v w → (resRun a.tmps (.cell x t)).run P w = .ok v w := by
    intro ad v e1 e2
    simp only [resRun, e1, asAddr, pure_bind, e2]
  cases hA : e.tmps.getD x .unk <;> simp only [hA] at hr hT <;> try (cases hr; done)
  rename_i d' g off
  cases hk : e.ok? d' g with
  | none => simp [hk] at hr
  | some k =>
    cases k <;> simp only [hk] at hr <;> try (cases hr; done)
    rename_i l
    by_cases hb : off + n ≤ l.length ∧ j < n
    case neg => rw [if_neg hb] at hr; cases hr
    rw [if_pos hb] at hr
    obtain ⟨hb, hj⟩ := hb
    cases hc : l.getD (off + j) .unk <;> simp only [hc] at hr <;> try (cases hr; done)
    rename_i d2 g2
    cases hk2 : e.ok? d2 g2 with
    | none => simp [hk2] at hr
    | some k2 =>
      cases k2 <;> simp only [hk2] at hr <;> try (cases hr; done)
      rename_i E' c' f m
      by_cases hcond : E' = E ∧ c' = c ∧ f = 0
      case neg => rw [if_neg hcond] at hr; cases hr
      rw [if_pos hcond] at hr
      obtain ⟨rfl, rfl, rfl⟩ := hcond
      cases hv : e.views (((l.drop off).take n).set j .nil) with
      | none => simp [hv] at hr
      | some q =>
        obtain ⟨m', ks⟩ := q
        simp only [hv] at hr
        by_cases hks : ks.contains d2 = true
        case pos => rw [if_pos hks] at hr; cases hr
        rw [if_neg hks] at hr
        simp only [Option.some.injEq] at hr
        subst hr
        have hks' : d2 ∉ ks := fun hh => hks (List.contains_iff_mem.2 hh)
        obtain ⟨b, vs, T, q1, q2, q3, q4, q5, q6, q7⟩ := box_cells h hk
        obtain ⟨b', q1', hv'⟩ := hT.2.2 l hk
        have : b = b' := by rw [q1] at q1'; simpa using q1'
        subst this
        have hlen0 : ((l.drop off).take n).length = n := take_drop_len l off n hb
        -- the cells, the row's told as nil
        obtain ⟨i1, i2⟩ := views_rep h (vs := fun i => if i = j then .slice none 0 0 else vs.getD (off + i) undef) (fun i hi => by
          rw [List.length_set, hlen0] at hi
          by_cases hij : i = j
          · subst hij
            rw [getD_set_eq _ _ _ _ (by rw [hlen0]; exact hi), if_pos rfl]
            exact RepR.toT .nil
          · rw [getD_set_ne' _ _ _ _ _ (fun hh => hij hh.symm), if_neg hij, drop_take_getD l off n i hi hb]
            exact (q5 (off + i) (by omega)).1) hv
        rw [List.length_set, hlen0] at i1
        have hrun := load hv' (run_loadVar_agg hu (.inl ⟨_, rfl⟩) hz (f := fun i => vs.getD (off + i) undef) (fun i hi => q7 (off + i) (by omega)))
        have h1 := results_run (fn := fn) (tmps := a.tmps) (w := w) (P := P) (v := fun _ => _) (fun q hq => by
          rw [hres] at hq
          rw [List.mem_singleton] at hq
          subst hq; exact hrun)
        refine ⟨_, h1, ?_⟩
        simp only [hres]
        rw [dif_pos (by simp)]
        simp only [List.map_cons, List.getElem_cons_zero]
        obtain ⟨hd2, hg2, hkd2⟩ := Env.ok?_eq hk2
        have hcell := (q5 (off + j) (by omega)).1
        rw [hc] at hcell
        have hsv := hcell.2.2 _ _ _ _ hk2
        have ho := h.objs d2 hd2
        rw [hkd2] at ho
        obtain ⟨_, o2, xs, o3, o4, o5⟩ := ho
        have ej : (((List.range n).map (fun i => vs.getD (off + i) undef)).toArray).getD j undef = G.sv d2 := by rw [range_getD n _ j hj]; exact hsv
        have hfrz : ∀ b, blkOf (G.sv d2) = some b → ∀ o, ¬ (G.frz e ks).ok b o := fun b hb' o hh => by
          rcases (Gh.frz_iff ks).1 hh with hh | ⟨d3, hd3, E3, c3, f3, l3, hk3, hb3, _⟩
          · have := o5 b hb' o hh; omega
          · have hd3' : d3 < e.objs.length := kind_lt (by rw [hk3]; rfl)
            have := h.inj d2 d3 hd2 hd3' (by rw [hkd2]; rfl) (by rw [hk3]; rfl) b hb' hb3
            subst this; exact hks' hd3
        have hafter : ∀ b o, (G.frz e ks).ok b o → okAfter base ok0 w (blkOf (G.sv d2)) b o := fun b o hh => h.after (blkOf (G.sv d2)) ks (fun b' hb' o' ho' => hfrz b' hb' o' ho') hh
        refine ⟨_, rfl, by simp [i1], by simp [i1, hj], ⟨o2, xs, by rw [ej]; exact o3, fun i k hi hk' => ?_⟩, fun i hi hij => ?_⟩
        · rw [ej]
          exact ⟨(o4 i k hi hk').1.mono (fun b o hh => hafter b o (Gh.frz_ok ks hh)) (fun _ _ _ => SameAt.refl), (o4 i k hi hk').2⟩
        · have hi' : i < n := by simpa [i1] using hi
          have him : i < m'.length := by simpa using hi
          obtain ⟨r1, r2⟩ := i2 i (by omega)
          simp only [if_neg hij] at r1
          rw [ej, range_getD n _ i hi']
          have e2 : (m'.map AV.norm).getD i .unk = (m'.getD i .unk).norm := by simp [List.getD_eq_getElem?_getD, List.getElem?_eq_getElem him]
          rw [e2]
          exact ⟨(RepR.norm r1).mono (fun b o hh => hafter b o hh) (fun _ _ _ => SameAt.refl), AV.norm_pure r2⟩

/-- What is handed out. -/
theorem results_rep (h : Rel base w0 ok0 e a w G) {fn : Func} {rs : List RV} (hrs : compRVs P fn fn.results.toList = some rs) {r : AV} (hr : Bv.results e rs = some r) :
    ∃ v, (Go.results fn a.tmps).run P w = .ok v w ∧ RepRes base ok0 w v r := by
  have gen : fn.results.toList.mapM (compRV P) = some rs → rs.length ≠ 1 ∨ (∃ x, rs = [x] ∧ (∀ t E c, x ≠ .tsl t E c) ∧ ∀ t n j E c, x ≠ .cellf t n j E c) → ∃ v, (Go.results fn a.tmps).run P w = .ok v w ∧ RepRes base ok0 w v r := by
    intro hm hcase
    rcases hcase with hl | ⟨x, rfl, hx, hx2⟩
    · have hr' : (match resTs e rs with
          | some l => some (AV.tup l)
          | none => none) = some r := by
        rw [← hr]
        unfold Bv.results
        match rs, hl with
        | [], _ => rfl
        | [x], hl => exact absurd rfl hl
        | x :: y :: l, _ => cases x <;> rfl
      cases hres : resTs e rs with
      | none => simp [hres] at hr'
      | some l =>
        simp only [hres, Option.some.injEq] at hr'
        subst hr'
        obtain ⟨v, j1, j2, j3⟩ := resTs_rep h hm hres
        have hlen : rs.length = fn.results.toList.length := by
          have : ∀ (l : List ResultVar) (m : List RV), l.mapM (compRV P) = some m → m.length = l.length := by
            intro l
            induction l with
            | nil => intro m hh; simp at hh; subst hh; rfl
            | cons x l ih => intro m hh; obtain ⟨y, m', _, h2, rfl⟩ := mapM_cons' hh; simp [ih m' h2]
          exact this _ _ hm
        refine ⟨_, results_run j1, ?_⟩
        rw [dif_neg (by rw [List.length_map, ← hlen]; exact hl)]
        refine RepR.tup _ _ (by simp [j2]) (fun j hj => ?_)
        have := j3 j hj
        rw [List.getD_eq_getElem?_getD] at this
        simpa [Array.getD_eq_getD_getElem?] using this
    · have hr' : (match resT e x with
          | some (A, _) => some A
          | none => none) = some r := by
        rw [← hr]
        cases x <;> first | rfl | exact absurd rfl (hx _ _ _) | exact absurd rfl (hx2 _ _ _ _ _)
      cases hres : resT e x with
      | none => simp [hres] at hr'
      | some q =>
        obtain ⟨A, ks⟩ := q
        simp only [hres, Option.some.injEq] at hr'
        subst hr'
        match hfr : fn.results.toList, hm with
        | [], hm => simp at hm
        | [y], hm =>
          obtain ⟨y', m', c1, c2, c3⟩ := mapM_cons' hm
          simp only [List.cons.injEq] at c3
          rw [← c3.1] at c1
          obtain ⟨u, k1, k2, k3⟩ := resT_rep h c1 hres
          have h1 := results_run (fn := fn) (tmps := a.tmps) (w := w) (P := P) (v := fun _ => u) (fun q hq => by
            rw [hfr] at hq
            rw [List.mem_singleton] at hq
            subst hq; exact k1)
          refine ⟨_, h1, ?_⟩
          simp only [hfr]
          rw [dif_pos (by simp)]
          simp only [List.map_cons, List.getElem_cons_zero]
          cases A <;> first | exact k2 | (cases k3; done)
        | y :: z :: l, hm =>
          obtain ⟨y', m', c1, c2, c3⟩ := mapM_cons' hm
          obtain ⟨y'', m'', c1', c2', c3'⟩ := mapM_cons' c2
          subst c3'
          simp at c3
  match hres : fn.results.toList with
  | [] =>
    rw [hres] at hrs
    simp [compRVs] at hrs
    refine gen (by rw [hres, hrs]; rfl) (.inl (by rw [hrs]; simp))
  | [.cell x t] =>
    rw [hres] at hrs
    simp only [compRVs] at hrs
    cases hfc : freshCell fn.name with
    | none =>
      simp only [hfc] at hrs
      cases c1 : compRV P (.cell x t) with
      | none => simp [c1] at hrs
      | some y' =>
        simp only [c1, Option.map_some, Option.some.injEq] at hrs
        subst hrs
        have c1' := c1
        simp only [compRV] at c1'
        refine gen (by rw [hres]; simp [c1]) (.inr ⟨y', rfl, (fun t' E c hh => ?_), (fun t' n j E c hh => ?_)⟩)
        · subst hh
          (repeat' split at c1') <;> first | (cases c1'; done) | (simp at c1')
        · subst hh
          (repeat' split at c1') <;> first | (cases c1'; done) | (simp at c1')
    | some j =>
      simp only [hfc] at hrs
      cases c1 : freshRV P fn j x t with
      | none => simp [c1] at hrs
      | some y' =>
        simp only [c1, Option.map_some, Option.some.injEq] at hrs
        subst hrs
        unfold freshRV at c1
        cases hu : P.underlying t with
        | none => simp [hu] at c1
        | some D =>
          cases hz : sizeOf? P t with
          | none => simp [hu, hz] at c1
          | some n =>
            cases D <;> simp only [hu, hz] at c1 <;> try (cases c1; done)
            rename_i fields
            cases hff : fields.toList.find? (fun f => f.offset == j) with
            | none => simp [hff] at c1
            | some fd =>
              simp only [hff] at c1
              cases hu2 : P.underlying fd.type with
              | none => simp [hu2] at c1
              | some D2 =>
                cases D2 <;> simp only [hu2] at c1 <;> try (cases c1; done)
                rename_i E
                cases hz2 : sizeOf? P E with
                | none => simp [hz2] at c1
                | some c =>
                  simp only [hz2, Option.map_some, Option.some.injEq] at c1
                  subst c1
                  exact resF_rep h hres hu hz hr
  | [.tmp t] =>
    rw [hres] at hrs
    simp only [compRVs] at hrs
    have plain : rs = [.tmp t] → ∃ v, (Go.results fn a.tmps).run P w = .ok v w ∧ RepRes base ok0 w v r := fun hh =>
      gen (by rw [hres, hh]; rfl) (.inr ⟨_, hh, (fun _ _ _ hh => by cases hh), (fun _ _ _ _ _ hh => by cases hh)⟩)
    have one : (match e.arg (e.tmps.getD t .unk) with
        | some (A, _) => some A
        | none => none) = some r → ∃ v, (Go.results fn a.tmps).run P w = .ok v w ∧ RepRes base ok0 w v r := by
      intro h2
      refine ⟨_, results_one hres a.tmps w, ?_⟩
      cases h3 : e.arg (e.tmps.getD t .unk) with
      | none => simp only [h3] at h2; cases h2
      | some q =>
        obtain ⟨A, ks⟩ := q
        simp only [h3, Option.some.injEq] at h2
        subst h2
        have h4 := arg_after h (tmps_rep h t) h3
        have h5 := arg_not_fr h3
        cases A <;> first | exact h4 | (cases h5; done)
    cases hu : (fn.resultTypes[0]?).bind P.underlying with
    | none => rw [hu] at hrs; simp at hrs; exact plain hrs.symm
    | some d =>
      cases d <;> (try (rw [hu] at hrs; simp at hrs; exact plain hrs.symm))
      rename_i E
      rw [hu] at hrs
      cases hs : sizeOf? P E with
      | none => simp [hs] at hrs
      | some c =>
        simp [hs] at hrs
        subst hrs
        simp only [Bv.results] at hr
        have hT := tmps_rep h t
        cases hA : e.tmps.getD t .unk <;> simp only [hA] at hr hT <;> try (cases hr; done)
        case nil =>
          simp only [Option.some.injEq] at hr
          subst hr
          refine ⟨_, results_one hres a.tmps w, fun i hi => absurd hi (by simp), [], ?_, fun i j hi => absurd hi (by simp)⟩
          have hv : a.tmps.getD t undef = .slice none 0 0 := by
            generalize a.tmps.getD t undef = v at hT ⊢
            cases hT; rfl
          rw [hv]
          exact World.ownsRow_nil w base E c
        case sl l =>
          simp only [Option.some.injEq] at hr
          subst hr
          exact one (by rw [hA]; rfl)
        case own d g =>
          cases hk : e.ok? d g with
          | none => simp [hk] at hr
          | some k =>
            cases k <;> simp only [hk] at hr <;> try (cases hr; done)
            rename_i E' c' f l
            by_cases hcond : E' = E ∧ c' = c ∧ f = 0
            · rw [if_pos hcond] at hr
              obtain ⟨rfl, rfl, rfl⟩ := hcond
              simp only [Option.some.injEq] at hr
              subst hr
              obtain ⟨hd, hg, hkd⟩ := Env.ok?_eq hk
              have hv := hT.2.2 _ _ _ _ hk
              have ho := h.objs d hd
              rw [hkd] at ho
              obtain ⟨_, o2, xs, o3, o4, o5⟩ := ho
              refine ⟨_, results_one hres a.tmps w, o2, xs, ?_, fun i j hi hj => ⟨(o4 i j hi hj).1.mono (fun b o hb => ?_) (fun _ _ _ => SameAt.refl), (o4 i j hi hj).2⟩⟩
              · rw [hv]; exact o3
              · refine h.after (blkOf (a.tmps.getD t undef)) [] (fun b' hb' o' ho' => ?_) hb
                rw [hv] at hb'
                have := o5 b' hb' o' ho'
                simp at this
            · rw [if_neg hcond] at hr
              simp only [Option.some.injEq] at hr
              subst hr
              exact one (by
                rw [hA]
                simp [Env.arg, Env.view1, hk, AV.norm])
  | r1 :: r2 :: l =>
    rw [hres] at hrs
    have hrs' : (r1 :: r2 :: l).mapM (compRV P) = some rs := by
      cases r1 <;> exact hrs
    obtain ⟨y', m', c1, c2, c3⟩ := mapM_cons' hrs'
    obtain ⟨y'', m'', c1', c2', c3'⟩ := mapM_cons' c2
    exact gen (by rw [hres]; exact hrs') (.inl (by rw [c3, c3']; simp))

theorem Rel.start {w : World} {as : List AV} {vs : List Value} {ok : Nat → Nat → Prop} {nt : Nat} (hok : ∀ b o, ok b o → b < w.heap.size) (hl : vs.length = as.length) (hnt : as.length ≤ nt)
    (hr : ∀ j, j < as.length → RepR w ok (vs.getD j undef) (as.getD j .unk)) (np : Nat) (rs : List RV) (k : C) :
    Rel w.heap.size w ok (F.start ⟨np, nt, rs, k⟩ as) { tmps := vs.toArray ++ Array.replicate (nt - vs.toArray.size) undef, defers := [] } w ⟨fun _ => undef, ok⟩ := by
  have hdead : ∀ d, (F.start ⟨np, nt, rs, k⟩ as).kind d = .dead := fun d => by
    unfold Env.kind F.start
    simp only [List.getElem?_replicate]
    split
    · rename_i o ho
      split at ho
      · cases ho; rfl
      · cases ho
    · rfl
  refine ⟨Below.refl _ _, Nat.le_refl _, ?_, fun t ht => ?_, rfl, hok, fun b o hb => Iff.rfl, fun d hd => ?_, fun d d' hd hd' h1 => ?_⟩
  · simp [F.start, hl]
  · have hT : RepR w ok ((vs.toArray ++ Array.replicate (nt - vs.toArray.size) undef).getD t undef) ((as ++ List.replicate (nt - as.length) AV.unk).getD t .unk) := by
      rcases Nat.lt_or_ge t as.length with hlt | hge
      · have h1 : (as ++ List.replicate (nt - as.length) AV.unk).getD t .unk = as.getD t .unk := by
          simp [List.getD_eq_getElem?_getD, List.getElem?_append, hlt]
        have h2 : (vs.toArray ++ Array.replicate (nt - vs.toArray.size) undef).getD t undef = vs.getD t undef := by
          simp [Array.getD_eq_getD_getElem?, List.getD_eq_getElem?_getD, Array.getElem?_append, hl, hlt]
        rw [h1, h2]
        exact hr t hlt
      · have h1 : (as ++ List.replicate (nt - as.length) AV.unk).getD t .unk = .unk := by
          simp only [List.getD_eq_getElem?_getD, List.getElem?_append, Nat.not_lt.2 hge, if_false, List.getElem?_replicate]
          split <;> rfl
        rw [h1]; exact .unk _
    exact RepR.toT (G := ⟨fun _ => undef, ok⟩) hT
  · rw [hdead]; trivial
  · rw [hdead] at h1; cases h1

theorem simF (hm : P.follows .mixedOrders = true) (hR : VSound P R) (n : Nat) {f : Nat} {F : F} (hF : compF P f = some F) {as : List AV} {r : AV} (he : evalF R (fun b e => loopN b n e) F as = some r) : VSpec P f as r := by
  unfold compF at hF
  cases h1 : P.funcs[f]? with
  | none => simp [h1] at hF
  | some fn =>
    simp only [h1] at hF
    cases h2 : fn.body with
    | none => simp [h2] at hF
    | some c =>
      simp only [h2] at hF
      cases h3 : compC P c with
      | none => simp only [h3, ite_self] at hF; cases hF
      | some k =>
        cases h4 : compRVs P fn fn.results.toList with
        | none => simp only [h3, h4, ite_self] at hF; cases hF
        | some rs =>
          have hnm : ¬ (fn.name == "runtime.NumGoroutine") = true := fun hh => by simp only [h3, h4, hh, if_true] at hF; cases hF
          simp only [h3, h4, if_neg hnm, Option.some.injEq] at hF
          subst hF
          unfold evalF at he
          simp only at he
          by_cases hb : as.length = fn.params.size + fn.nfree ∧ fn.params.size + fn.nfree ≤ fn.ntmps
          case neg => rw [if_neg hb] at he; cases he
          rw [if_pos hb] at he
          intro w vs ok hok hl hr
          refine calls_of_wp h1 h2 ?_
          have hst := Rel.start (np := fn.params.size + fn.nfree) (nt := fn.ntmps) (rs := rs) (k := mark (rs.map RV.tmp') k (fun _ => []) (rs.map RV.tmp')) hok hl (by omega) hr
          cases hev : evalC R (fun b e => loopN b n e) (mark (rs.map RV.tmp') k (fun _ => []) (rs.map RV.tmp')) (F.start ⟨fn.params.size + fn.nfree, fn.ntmps, rs, mark (rs.map RV.tmp') k (fun _ => []) (rs.map RV.tmp')⟩ as) with
          | none => simp [hev] at he
          | some q =>
            obtain ⟨x, e'⟩ := q
            refine simC hm hR n c k _ h3 (mark_marked _ _ _ _) _ _ _ _ x e' _ hst hev (fun a' w' G' h' => ?_)
            have fin : Bv.results e' rs = some r → a'.defers = [] ∧ ∃ v, (Go.results fn a'.tmps).run P w' = .ok v w' ∧ ∃ u, Ending.returned v = .returned u ∧ Below w.heap.size w w' ∧ RepRes w.heap.size ok w' u r := fun hh => by
              obtain ⟨v, hv, hrep⟩ := results_rep h' h4 hh
              exact ⟨h'.defers, v, hv, v, rfl, h'.below, hrep⟩
            cases x with
            | normal => simp only [hev] at he; exact fin he
            | ret => simp only [hev] at he; exact fin he
            | exit id => simp [hev] at he

theorem compF_callable {f : Nat} {F : F} (hF : compF P f = some F) : callable P f = true := by
  unfold compF at hF
  unfold callable
  cases h1 : P.funcs[f]? with
  | none => simp [h1] at hF
  | some fn =>
    simp only [h1] at hF ⊢
    cases h2 : fn.body with
    | none => simp [h2] at hF
    | some c =>
      simp only [h2] at hF
      by_cases hnm : (fn.name == "runtime.NumGoroutine") = true
      · rw [if_pos hnm] at hF; cases hF
      · simp [hnm]

/-- The evaluator is right, if what it takes for granted is. -/
theorem runK_sound (hm : P.follows .mixedOrders = true) {T : Nat → Option F} {S : Nat → List AV → Option AV} (hT : ∀ f F, T f = some F → compF P f = some F) (hS : VSound P S) : ∀ n, VSound P (runK T S n) := by
  intro n
  induction n with
  | zero => intro f as r h; simp [runK] at h
  | succ n ih =>
    intro f as r h
    simp only [runK] at h
    cases hf : T f with
    | none => rw [hf] at h; exact hS f as r h
    | some F => rw [hf] at h; exact ⟨simF hm ih n (hT f F hf) h, compF_callable (hT f F hf)⟩

end
end Go.Bv
