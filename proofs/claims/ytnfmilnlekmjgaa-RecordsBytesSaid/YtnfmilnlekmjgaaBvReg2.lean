/- BY VALUE, part 8: operations that may be taken in either order. Nothing of the machine stands here. -/
import Derived.Test.YtnfmilnlekmjgaaBvCore
set_option linter.unusedVariables false
set_option linter.unusedSimpArgs false
namespace Go.Bv

def X.tmp : X → List Nat
  | .t n => [n]
  | .c _ => []
def xtmps : List X → List Nat
  | [] => []
  | x :: l => x.tmp ++ xtmps l
def xotmp : Option X → List Nat
  | none => []
  | some x => x.tmp
def ptmps : List (Nat × Nat × X) → List Nat
  | [] => []
  | p :: l => p.2.2.tmp ++ ptmps l

def O.reads : O → List Nat
  | .mv x | .box _ x | .un _ x | .cvi _ x | .cvs x | .cvsb x | .cvbs x | .lens x | .len x | .ext x _ | .nck x | .ld _ x | .fa _ _ x | .cpy _ _ _ x => x.tmp
  | .new .. => []
  | .pick c a b => c.tmp ++ (a.tmp ++ b.tmp)
  | .bld _ ps => ptmps ps
  | .lit _ _ xs => xtmps xs
  | .call _ xs => xtmps xs
  | .st _ p x => p.tmp ++ x.tmp
  | .ia _ x i | .ix x i => x.tmp ++ i.tmp
  | .subs x lo hi | .sub _ x lo hi => x.tmp ++ (xotmp lo ++ xotmp hi)
  | .mk _ _ _ _ n => n.tmp
  | .bin _ x y | .beq _ x y | .eqs _ _ x y | .mnx _ x y => x.tmp ++ y.tmp
  | .app _ _ _ s x | .apps _ s x => s.tmp ++ x.tmp

def OP.reads (c : OP) : List Nat := (match c.guard with | some (t, _) => [t] | none => []) ++ c.op.reads

inductive Cls where
  | n
  | v
  | w
  deriving DecidableEq

def O.cls : O → Cls
  | .mv _ | .pick .. | .bin .. | .beq .. | .eqs .. | .un .. | .cvi .. | .cvs _ | .cvsb _ | .ext .. | .lens _ | .ix .. | .subs .. | .mnx .. => .n
  | .st .. | .app .. | .apps .. => .w
  | _ => .v

/-- May it make something at its destination? -/
def O.makes : O → Bool
  | .box .. | .new .. | .mk .. | .call .. | .cpy .. => true
  | _ => false

def apartC (a b : OP) : Bool :=
  (match a.dst with
  | some d => !b.reads.contains d && b.dst != some d
  | none => true) &&
  (match b.dst with
  | some d => !a.reads.contains d
  | none => true) &&
  (match a.op.cls, b.op.cls with
  | .w, .n => true
  | .n, .w => true
  | .w, _ => false
  | _, .w => false
  | _, _ => true)

/-! ### What there is behind a reference, as far as an operation asks -/
inductive Cont where
  | box (l : List AV)
  | row (E c : Nat) (l : List (List AV))

def OK.cont : OK → Option Cont
  | .dead => none
  | .box l => some (.box l)
  | .row E c _ l => some (.row E c l)

def Env.cont (e : Env) (d g : Nat) : Option Cont := (e.ok? d g).bind OK.cont

/-- The references in a value are such. -/
def bdd1 (q : Nat → Nat → Prop) : AV → Prop
  | .own d g => q d g
  | _ => True
def bddA (q : Nat → Nat → Prop) : AV → Prop
  | .own d g => q d g
  | .ptr d g _ => q d g
  | .rp d g _ _ => q d g
  | .agg l => ∀ A ∈ l, bdd1 q A
  | _ => True

structure Bdd (q : Nat → Nat → Prop) (e : Env) : Prop where
  tmps : ∀ t, bddA q (e.tmps.getD t .unk)
  box : ∀ d g l, e.ok? d g = some (.box l) → ∀ A ∈ l, bdd1 q A

def X.okc : X → Bool
  | .t _ => true
  | .c A => A.pure
/-- Its constants lead nowhere. -/
def O.okc : O → Bool
  | .mv x | .box _ x | .un _ x | .cvi _ x | .cvs x | .cvsb x | .cvbs x | .lens x | .len x | .ext x _ | .nck x | .ld _ x | .fa _ _ x | .cpy _ _ _ x => x.okc
  | .new _ z => z.all AV.pure
  | .pick c a b => c.okc && (a.okc && b.okc)
  | .bld z ps => z.all AV.pure && ps.all (fun p => p.2.2.okc)
  | .lit _ _ xs => xs.all X.okc
  | .call _ xs => xs.all X.okc
  | .st _ p x => p.okc && x.okc
  | .ia _ x i | .ix x i => x.okc && i.okc
  | .subs x lo hi | .sub _ x lo hi => x.okc && (lo.all X.okc && hi.all X.okc)
  | .mk _ _ _ z n => z.all AV.pure && n.okc
  | .bin _ x y | .beq _ x y | .eqs _ _ x y | .mnx _ x y => x.okc && y.okc
  | .app _ _ _ s x | .apps _ s x => s.okc && x.okc

theorem okc {e e' : Env} {d g : Nat} (h : e'.cont d g = e.cont d g) :
    (∃ l, e.ok? d g = some (.box l) ∧ e'.ok? d g = some (.box l)) ∨ (∃ E c f f' l, e.ok? d g = some (.row E c f l) ∧ e'.ok? d g = some (.row E c f' l)) ∨
    ((e.ok? d g = none ∨ e.ok? d g = some .dead) ∧ (e'.ok? d g = none ∨ e'.ok? d g = some .dead)) := by
  unfold Env.cont at h
  cases h1 : e.ok? d g with
  | none =>
    cases h2 : e'.ok? d g with
    | none => exact .inr (.inr ⟨.inl rfl, .inl rfl⟩)
    | some k => cases k <;> simp [h1, h2, OK.cont] at h; exact .inr (.inr ⟨.inl rfl, .inr rfl⟩)
  | some k =>
    cases k with
    | dead =>
      cases h2 : e'.ok? d g with
      | none => exact .inr (.inr ⟨.inr rfl, .inl rfl⟩)
      | some k => cases k <;> simp [h1, h2, OK.cont] at h; exact .inr (.inr ⟨.inr rfl, .inr rfl⟩)
    | box l =>
      cases h2 : e'.ok? d g with
      | none => simp [h1, h2, OK.cont] at h
      | some k => cases k <;> simp [h1, h2, OK.cont] at h; subst h; exact .inl ⟨_, rfl, rfl⟩
    | row E c f l =>
      cases h2 : e'.ok? d g with
      | none => simp [h1, h2, OK.cont] at h
      | some k => cases k <;> simp [h1, h2, OK.cont] at h; obtain ⟨rfl, rfl, rfl⟩ := h; exact .inr (.inl ⟨_, _, _, _, _, rfl, rfl⟩)

/-- 'e'' tells the same as 'e' wherever 'e''s own references lead. -/
structure Sees (q : Nat → Nat → Prop) (e e' : Env) : Prop where
  cont : ∀ d g, q d g → e'.cont d g = e.cont d g

section
variable {R : Nat → List AV → Option AV} {e e' : Env} {q : Nat → Nat → Prop}

theorem pure_bdd1 {A : AV} (h : A.pure = true) : bdd1 q A := by cases A <;> first | trivial | (simp [AV.pure] at h)
theorem pure_bddA {A : AV} (h : A.pure = true) : bddA q A := by cases A <;> first | trivial | (simp [AV.pure] at h)

theorem get_bdd (hb : Bdd q e) {x : X} (hx : x.okc = true) : bddA q (e.get x) := by
  cases x with
  | t n => exact hb.tmps n
  | c A => exact pure_bddA hx

theorem view1_sees (hs : Sees q e e') {A : AV} (hb : bdd1 q A) : e'.view1 A = e.view1 A := by
  cases A <;> try rfl
  rename_i d g
  simp only [Env.view1]
  rcases okc (hs.cont d g hb) with ⟨l, h1, h2⟩ | ⟨E, c, f, f', l, h1, h2⟩ | ⟨h1 | h1, h2 | h2⟩ <;> simp [h1, h2]

theorem views_sees (hs : Sees q e e') : ∀ {l : List AV}, (∀ A ∈ l, bdd1 q A) → e'.views l = e.views l
  | [], _ => rfl
  | A :: l, hb => by
    simp only [Env.views]
    rw [view1_sees hs (hb A (by simp)), views_sees hs (fun B hB => hb B (by simp [hB]))]

theorem bddA_1 {A : AV} (h : bddA q A) : bdd1 q A := by cases A <;> first | exact h | trivial

theorem cells_sees (hs : Sees q e e') {A : AV} (hb : bddA q A) : e'.cells A = e.cells A := by
  cases A <;> simp only [Env.cells] <;> first
    | exact views_sees hs hb
    | exact views_sees hs (fun B hB => by
        rw [List.mem_singleton] at hB
        subst hB
        exact bddA_1 hb)

theorem arg_sees (hs : Sees q e e') {A : AV} (hb : bddA q A) : e'.arg A = e.arg A := by
  cases A <;> simp only [Env.arg] <;> first
    | rw [views_sees hs hb]
    | rw [view1_sees hs (bddA_1 hb)]

theorem elems_sees (hs : Sees q e e') {A : AV} (hb : bddA q A) : e'.elems A = e.elems A := by
  cases A <;> try rfl
  rename_i d g
  simp only [Env.elems]
  rcases okc (hs.cont d g hb) with ⟨l, h1, h2⟩ | ⟨E, c, f, f', l, h1, h2⟩ | ⟨h1 | h1, h2 | h2⟩ <;> simp [h1, h2]

theorem get_same {x : X} (h : ∀ t ∈ x.tmp, e'.tmps.getD t .unk = e.tmps.getD t .unk) : e'.get x = e.get x := by
  cases x with
  | t n => exact h n (by simp [X.tmp])
  | c A => rfl

theorem args_sees (hs : Sees q e e') (hb : Bdd q e) : ∀ {xs : List X}, xs.all X.okc = true → (∀ t ∈ xtmps xs, e'.tmps.getD t .unk = e.tmps.getD t .unk) → e'.args xs = e.args xs
  | [], _, _ => rfl
  | x :: xs, hx, ht => by
    simp only [List.all_cons, Bool.and_eq_true] at hx
    have hg : e'.get x = e.get x := get_same (fun t h => ht t (by simp [xtmps, h]))
    simp only [Env.args, hg, arg_sees hs (get_bdd hb hx.1), args_sees hs hb hx.2 (fun t h => ht t (by simp [xtmps, h]))]

theorem lits_sees (hs : Sees q e e') (hb : Bdd q e) {c : Nat} : ∀ {xs : List X}, xs.all X.okc = true → (∀ t ∈ xtmps xs, e'.tmps.getD t .unk = e.tmps.getD t .unk) → lits e' c xs = lits e c xs
  | [], _, _ => rfl
  | x :: xs, hx, ht => by
    simp only [List.all_cons, Bool.and_eq_true] at hx
    have hg : e'.get x = e.get x := get_same (fun t h => ht t (by simp [xtmps, h]))
    simp only [lits, hg, cells_sees hs (get_bdd hb hx.1), lits_sees hs hb hx.2 (fun t h => ht t (by simp [xtmps, h]))]

theorem fill_sees (hs : Sees q e e') (hb : Bdd q e) : ∀ {ps : List (Nat × Nat × X)} {z : List AV}, ps.all (fun p => p.2.2.okc) = true → (∀ t ∈ ptmps ps, e'.tmps.getD t .unk = e.tmps.getD t .unk) → fill e' z ps = fill e z ps
  | [], _, _, _ => rfl
  | (off, n, x) :: ps, z, hx, ht => by
    simp only [List.all_cons, Bool.and_eq_true] at hx
    have hg : e'.get x = e.get x := get_same (fun t h => ht t (by simp [ptmps, h]))
    simp only [fill, hg, cells_sees hs (get_bdd hb hx.1)]
    cases e.cells (e.get x) with
    | none => rfl
    | some r =>
      obtain ⟨l, ks⟩ := r
      simp only
      rw [fill_sees hs hb hx.2 (fun t h => ht t (by simp [ptmps, h]))]

theorem oget_same {x : Option X} (h : ∀ t ∈ xotmp x, e'.tmps.getD t .unk = e.tmps.getD t .unk) : x.map e'.get = x.map e.get := by
  cases x with
  | none => rfl
  | some x => simp only [Option.map_some]; rw [get_same h]

/-- An operation that doesn't write gives the same wherever what it reads is told the same. -/
theorem act_sees (hs : Sees q e e') (hb : Bdd q e) {o : O} (hc : o.okc = true) (hw : o.cls ≠ .w) (ht : ∀ t ∈ o.reads, e'.tmps.getD t .unk = e.tmps.getD t .unk) : act R e' o = act R e o := by
  cases o <;> simp only [O.reads, O.okc, List.mem_append, Bool.and_eq_true, List.not_mem_nil] at ht hc <;> try (exact absurd rfl hw)
  case mv x => simp only [act, get_same ht]
  case pick c a b => simp only [act, get_same (fun t h => ht t (.inl h)), get_same (fun t h => ht t (.inr (.inl h))), get_same (fun t h => ht t (.inr (.inr h)))]
  case box T x => simp only [act, get_same ht, cells_sees hs (get_bdd hb hc)]
  case new T z => rfl
  case bld z ps => simp only [act, fill_sees hs hb hc.2 ht]
  case lit E c xs => simp only [act, lits_sees hs hb hc ht]
  case ld n x =>
    have hg := get_bdd hb hc
    cases n with
    | none =>
      simp only [act, get_same ht]
      cases hx : e.get x <;> simp only [hx] at hg <;> try rfl
      · rename_i d g off
        rcases okc (hs.cont d g hg) with ⟨l, h1, h2⟩ | ⟨E, c, f, f', l, h1, h2⟩ | ⟨h1 | h1, h2 | h2⟩ <;> simp [h1, h2]
      · rename_i d g i j
        rcases okc (hs.cont d g hg) with ⟨l, h1, h2⟩ | ⟨E, c, f, f', l, h1, h2⟩ | ⟨h1 | h1, h2 | h2⟩ <;> simp [h1, h2]
    | some n =>
      simp only [act, get_same ht]
      cases hx : e.get x <;> simp only [hx] at hg <;> try rfl
      · rename_i d g off
        rcases okc (hs.cont d g hg) with ⟨l, h1, h2⟩ | ⟨E, c, f, f', l, h1, h2⟩ | ⟨h1 | h1, h2 | h2⟩ <;> simp only [h1, h2]
        rw [views_sees hs (fun A hA => hb.box d g l h1 A (List.mem_of_mem_drop (List.mem_of_mem_take hA)))]
      · rename_i d g i j
        rcases okc (hs.cont d g hg) with ⟨l, h1, h2⟩ | ⟨E, c, f, f', l, h1, h2⟩ | ⟨h1 | h1, h2 | h2⟩ <;> simp [h1, h2]
  case fa off n x =>
    have hg := get_bdd hb hc
    simp only [act, get_same ht]
    cases hx : e.get x <;> simp only [hx] at hg <;> try rfl
    · rename_i d g off
      rcases okc (hs.cont d g hg) with ⟨l, h1, h2⟩ | ⟨E, c, f, f', l, h1, h2⟩ | ⟨h1 | h1, h2 | h2⟩ <;> simp [h1, h2]
    · rename_i d g i j
      rcases okc (hs.cont d g hg) with ⟨l, h1, h2⟩ | ⟨E, c, f, f', l, h1, h2⟩ | ⟨h1 | h1, h2 | h2⟩ <;> simp [h1, h2]
  case nck x =>
    have hg := get_bdd hb hc
    simp only [act, get_same ht]
    cases hx : e.get x <;> simp only [hx] at hg <;> try rfl
    · rename_i d g off
      rcases okc (hs.cont d g hg) with ⟨l, h1, h2⟩ | ⟨E, c, f, f', l, h1, h2⟩ | ⟨h1 | h1, h2 | h2⟩ <;> simp [h1, h2]
    · rename_i d g i j
      rcases okc (hs.cont d g hg) with ⟨l, h1, h2⟩ | ⟨E, c, f, f', l, h1, h2⟩ | ⟨h1 | h1, h2 | h2⟩ <;> simp [h1, h2]
  case ia c x i =>
    have hg := get_bdd hb hc.1
    simp only [act, get_same (fun t h => ht t (.inl h)), get_same (fun t h => ht t (.inr h))]
    cases e.get i <;> try rfl
    simp only
    cases hx : e.get x <;> simp only [hx] at hg <;> try rfl
    rename_i d g
    rcases okc (hs.cont d g hg) with ⟨l, h1, h2⟩ | ⟨E, c, f, f', l, h1, h2⟩ | ⟨h1 | h1, h2 | h2⟩ <;> simp [h1, h2]
  case ix x i => simp only [act, get_same (fun t h => ht t (.inl h)), get_same (fun t h => ht t (.inr h))]
  case subs x lo hi => simp only [act, get_same (fun t h => ht t (.inl h)), oget_same (fun t h => ht t (.inr (.inl h))), oget_same (fun t h => ht t (.inr (.inr h)))]
  case sub c x lo hi => simp only [act, get_same (fun t h => ht t (.inl h)), oget_same (fun t h => ht t (.inr (.inl h))), oget_same (fun t h => ht t (.inr (.inr h))), elems_sees hs (get_bdd hb hc.1)]
  case mk E c by_ z n => simp only [act, get_same ht]
  case bin op x y => simp only [act, get_same (fun t h => ht t (.inl h)), get_same (fun t h => ht t (.inr h))]
  case beq ne x y => simp only [act, get_same (fun t h => ht t (.inl h)), get_same (fun t h => ht t (.inr h))]
  case eqs ne n x y => simp only [act, get_same (fun t h => ht t (.inl h)), get_same (fun t h => ht t (.inr h))]
  case mnx mx x y => simp only [act, get_same (fun t h => ht t (.inl h)), get_same (fun t h => ht t (.inr h))]
  case un op x => simp only [act, get_same ht]
  case cvi k x => simp only [act, get_same ht]
  case cvs x => simp only [act, get_same ht]
  case cvsb x => simp only [act, get_same ht]
  case cvbs x => simp only [act, get_same ht, elems_sees hs (get_bdd hb hc)]
  case lens x => simp only [act, get_same ht]
  case len x => simp only [act, get_same ht, elems_sees hs (get_bdd hb hc)]
  case ext x i => simp only [act, get_same ht]
  case cpy E c by_ x => simp only [act, get_same ht, elems_sees hs (get_bdd hb hc)]
  case call f xs => simp only [act, args_sees hs hb hc ht]

/-- An operation that asks nothing of memory. -/
theorem act_n {o : O} (hn : o.cls = .n) (ht : ∀ t ∈ o.reads, e'.tmps.getD t .unk = e.tmps.getD t .unk) : act R e' o = act R e o := by
  cases o <;> simp only [O.reads, List.mem_append] at ht <;> try (cases hn; done)
  case mv x => simp only [act, get_same ht]
  case pick c a b => simp only [act, get_same (fun t h => ht t (.inl h)), get_same (fun t h => ht t (.inr (.inl h))), get_same (fun t h => ht t (.inr (.inr h)))]
  case ix x i => simp only [act, get_same (fun t h => ht t (.inl h)), get_same (fun t h => ht t (.inr h))]
  case subs x lo hi => simp only [act, get_same (fun t h => ht t (.inl h)), oget_same (fun t h => ht t (.inr (.inl h))), oget_same (fun t h => ht t (.inr (.inr h)))]
  case bin op x y => simp only [act, get_same (fun t h => ht t (.inl h)), get_same (fun t h => ht t (.inr h))]
  case beq ne x y => simp only [act, get_same (fun t h => ht t (.inl h)), get_same (fun t h => ht t (.inr h))]
  case eqs ne n x y => simp only [act, get_same (fun t h => ht t (.inl h)), get_same (fun t h => ht t (.inr h))]
  case mnx mx x y => simp only [act, get_same (fun t h => ht t (.inl h)), get_same (fun t h => ht t (.inr h))]
  case un op x => simp only [act, get_same ht]
  case cvi k x => simp only [act, get_same ht]
  case cvs x => simp only [act, get_same ht]
  case cvsb x => simp only [act, get_same ht]
  case lens x => simp only [act, get_same ht]
  case ext x i => simp only [act, get_same ht]

end
end Go.Bv
