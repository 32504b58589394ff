/- BY VALUE, part 11: an operation that may come first may be taken first. -/
import Derived.Test.YtnfmilnlekmjgaaBvReg3
set_option linter.unusedVariables false
set_option linter.unusedSimpArgs false
namespace Go.Bv

section
variable {R : Nat → List AV → Option AV} {e e1 e2 e' : Env}

def actOP (R : Nat → List AV → Option AV) (e : Env) (c : OP) : Option (Res × List Nat) :=
  match c.guard with
  | none => act R e c.op
  | some (t, want) => match e.tmps.getD t .unk with
    | .bool b => if b = want then act R e c.op else some (.val .und, [])
    | .und => some (.val .und, [])
    | _ => none

theorem evalO_act {o : O} {dst : Option Nat} (h : o.cls ≠ .w) : evalO R e dst o = match act R e o with
    | some (r, ks) => applyRes (e.freeze ks) dst r
    | none => none := by
  cases o <;> first | rfl | exact absurd rfl h

theorem evalOP_act {c : OP} (h : c.op.cls ≠ .w) : evalOP R e c = match actOP R e c with
    | some (r, ks) => applyRes (e.freeze ks) c.dst r
    | none => none := by
  unfold evalOP actOP
  cases c.guard with
  | none => exact evalO_act h
  | some g =>
    obtain ⟨t, want⟩ := g
    simp only
    cases e.tmps.getD t .unk <;> try rfl
    rename_i b
    simp only
    by_cases hb : b = want
    · rw [if_pos hb, if_pos hb]; exact evalO_act h
    · rw [if_neg hb, if_neg hb]; rfl

theorem actOP_sees {q : Nat → Nat → Prop} (hs : Sees q e e') (hb : Bdd q e) {c : OP} (hc : c.op.okc = true) (hw : c.op.cls ≠ .w) (ht : ∀ t ∈ c.reads, e'.tmps.getD t .unk = e.tmps.getD t .unk) : actOP R e' c = actOP R e c := by
  unfold actOP
  have h1 := act_sees (R := R) hs hb hc hw (fun t h => ht t (by unfold OP.reads; exact List.mem_append.2 (.inr h)))
  cases hg : c.guard with
  | none => exact h1
  | some g =>
    obtain ⟨t, want⟩ := g
    simp only
    rw [ht t (by unfold OP.reads; simp [hg]), h1]

theorem actOP_n {c : OP} (hn : c.op.cls = .n) (ht : ∀ t ∈ c.reads, e'.tmps.getD t .unk = e.tmps.getD t .unk) : actOP R e' c = actOP R e c := by
  unfold actOP
  have h1 := act_n (R := R) (e := e) (e' := e') hn (fun t h => ht t (by unfold OP.reads; exact List.mem_append.2 (.inr h)))
  cases hg : c.guard with
  | none => exact h1
  | some g =>
    obtain ⟨t, want⟩ := g
    simp only
    rw [ht t (by unfold OP.reads; simp [hg]), h1]

theorem act_n_val {o : O} (hn : o.cls = .n) {r : Res} {ks : List Nat} (h : act R e o = some (r, ks)) : ks = [] ∧ ∃ A, r = .val A := by
  cases o <;> (try (cases hn; done)) <;> simp only [act] at h <;> (repeat' split at h) <;> first
    | (cases h; done)
    | (simp only [Option.some.injEq, Prod.mk.injEq] at h; obtain ⟨rfl, rfl⟩ := h; exact ⟨rfl, _, rfl⟩)

theorem actOP_n_val {c : OP} (hn : c.op.cls = .n) {r : Res} {ks : List Nat} (h : actOP R e c = some (r, ks)) : ks = [] ∧ ∃ A, r = .val A := by
  unfold actOP at h
  cases hg : c.guard with
  | none => rw [hg] at h; exact act_n_val hn h
  | some g =>
    obtain ⟨t, want⟩ := g
    rw [hg] at h
    simp only at h
    cases hb : e.tmps.getD t .unk <;> simp only [hb] at h <;> try (cases h; done)
    · simp only [Option.some.injEq, Prod.mk.injEq] at h; obtain ⟨rfl, rfl⟩ := h; exact ⟨rfl, _, rfl⟩
    split at h
    · exact act_n_val hn h
    · simp only [Option.some.injEq, Prod.mk.injEq] at h; obtain ⟨rfl, rfl⟩ := h; exact ⟨rfl, _, rfl⟩

theorem act_makes {o : O} {k : OK} {ks : List Nat} (h : act R e o = some (.mk k, ks)) : o.makes = true := by
  cases o <;> first | rfl | (simp only [act] at h; (repeat' split at h) <;> simp at h; done) | (exfalso; rename_i n p; cases n <;> simp only [act] at h <;> (repeat' split at h) <;> simp at h)

theorem actOP_makes {c : OP} {k : OK} {ks : List Nat} (h : actOP R e c = some (.mk k, ks)) : c.op.makes = true := by
  unfold actOP at h
  cases hg : c.guard with
  | none => rw [hg] at h; exact act_makes h
  | some g =>
    obtain ⟨t, want⟩ := g
    rw [hg] at h
    simp only at h
    cases hb : e.tmps.getD t .unk <;> simp only [hb] at h <;> (try (cases h; done)) <;> (try (simp at h; done))
    split at h
    · exact act_makes h
    · simp at h

theorem actOP_ok (hb : Bdd e.q e) (hb1 : e.box1) {c : OP} (hc : c.op.okc = true) {r : Res} {ks : List Nat} (h : actOP R e c = some (r, ks)) : KeysLive e ks ∧ ResOk e r := by
  unfold actOP at h
  cases hg : c.guard with
  | none => rw [hg] at h; exact act_ok hb hb1 hc h
  | some g =>
    obtain ⟨t, want⟩ := g
    rw [hg] at h
    simp only at h
    cases hbb : e.tmps.getD t .unk <;> simp only [hbb] at h <;> try (cases h; done)
    · simp only [Option.some.injEq, Prod.mk.injEq] at h; obtain ⟨rfl, rfl⟩ := h; exact ⟨KeysLive.nil, trivial⟩
    split at h
    · exact act_ok hb hb1 hc h
    · simp only [Option.some.injEq, Prod.mk.injEq] at h; obtain ⟨rfl, rfl⟩ := h; exact ⟨KeysLive.nil, trivial⟩

/-! ### A temporary that is not asked for -/
theorem bdd1_true (A : AV) : bdd1 (fun _ _ => True) A := by cases A <;> trivial
theorem bddA_true (A : AV) : bddA (fun _ _ => True) A := by cases A <;> first | trivial | exact fun _ _ => bdd1_true _
theorem Bdd_true (e : Env) : Bdd (fun _ _ => True) e := ⟨fun _ => bddA_true _, fun _ _ _ _ _ _ => bdd1_true _⟩
theorem put_ok? (e : Env) (dst : Option Nat) (A : AV) (d g : Nat) : (e.put dst A).ok? d g = e.ok? d g := by cases dst <;> rfl
theorem put_sees (e : Env) (dst : Option Nat) (A : AV) : Sees (fun _ _ => True) e (e.put dst A) := ⟨fun d g _ => by unfold Env.cont; rw [put_ok?]⟩
theorem put_cells (e : Env) (dst : Option Nat) (A B : AV) : (e.put dst A).cells B = e.cells B := cells_sees (put_sees e dst A) (bddA_true B)
theorem put_elems (e : Env) (dst : Option Nat) (A B : AV) : (e.put dst A).elems B = e.elems B := elems_sees (put_sees e dst A) (bddA_true B)
theorem put_freeze (e : Env) (dst : Option Nat) (A : AV) (ks : List Nat) : (e.put dst A).freeze ks = (e.freeze ks).put dst A := by cases dst <;> rfl
theorem put_setObj (e : Env) (dst : Option Nat) (A : AV) (d g : Nat) (k : OK) : (e.put dst A).setObj d g k = (e.setObj d g k).put dst A := by cases dst <;> rfl
theorem put_gen (e : Env) (dst : Option Nat) (A : AV) (d : Nat) : (e.put dst A).gen d = e.gen d := by cases dst <;> rfl
theorem put_cellOk (e : Env) (dst : Option Nat) (A B : AV) : (e.put dst A).cellOk B = e.cellOk B := by cases dst <;> rfl
theorem put_put (e : Env) {dst d : Option Nat} {A B : AV} (h : ∀ t, dst = some t → d ≠ some t) : (e.put dst A).put d B = (e.put d B).put dst A := by
  cases dst with
  | none => rfl
  | some t => cases d with
    | none => rfl
    | some s =>
      simp only [Env.put]
      rw [List.set_comm]
      exact fun hh => h t rfl (by rw [hh])

theorem put_applyRes {e : Env} {dst d : Option Nat} {A : AV} {r : Res} (h : ∀ t, dst = some t → d ≠ some t) : applyRes (e.put dst A) d r = (applyRes e d r).map (fun x => x.put dst A) := by
  cases r with
  | val B => simp only [applyRes, Option.map_some]; rw [put_put e h]
  | mk k =>
    cases d with
    | none => rfl
    | some s =>
      simp only [applyRes, Env.put_objs]
      by_cases hs : s < e.objs.length
      · rw [if_pos hs, if_pos hs]
        simp only [Option.map_some, put_setObj, put_gen]
        rw [put_put _ h]
      · rw [if_neg hs, if_neg hs]; rfl

theorem put_storeA {e : Env} {dst : Option Nat} {A : AV} {n : Nat} {p x : AV} : storeA (e.put dst A) n p x = (storeA e n p x).map (fun y => y.put dst A) := by
  cases p <;> try rfl
  case ptr d g off =>
    simp only [storeA, put_ok?]
    cases e.ok? d g with
    | none => rfl
    | some k =>
      cases k <;> try rfl
      simp only
      have h1 : (partsA x).all (e.put dst A).cellOk = (partsA x).all e.cellOk := by
        congr 1
        funext B
        exact put_cellOk e dst A B
      rw [h1]
      split
      · simp only [Option.map_some, put_setObj]
      · rfl
  case rp d g i j =>
    simp only [storeA, put_cells]
    cases e.cells x with
    | none => rfl
    | some q =>
      obtain ⟨m, ks⟩ := q
      simp only [put_freeze, put_ok?]
      cases (e.freeze ks).ok? d g with
      | none => rfl
      | some k =>
        cases k <;> try rfl
        simp only
        split
        · simp only [Option.map_some, put_setObj]
        · rfl

theorem put_appendA {e : Env} {dst d : Option Nat} {A : AV} {E c by_ : Nat} {s : AV} {x : Option (List (List AV) × List Nat)} (h : ∀ t, dst = some t → d ≠ some t) :
    appendA (e.put dst A) d E c by_ s x = (appendA e d E c by_ s x).map (fun y => y.put dst A) := by
  cases x with
  | none => rfl
  | some q =>
    obtain ⟨m, ks⟩ := q
    cases s <;> try rfl
    case nil =>
      cases d with
      | none => rfl
      | some t =>
        simp only [appendA, Env.put_objs]
        split
        · simp only [Option.map_some, put_freeze, put_gen, put_setObj]
          rw [put_put _ h]
        · rfl
    case own d' g =>
      simp only [appendA, put_freeze, put_ok?]
      cases (e.freeze ks).ok? d' g with
      | none => rfl
      | some k =>
        cases k <;> try rfl
        simp only
        split
        · simp only [Option.map_some, put_setObj]
          rw [put_put _ h]
        · rfl

theorem put_get {e : Env} {dst : Option Nat} {A : AV} {t : Nat} (h : dst ≠ some t) : (e.put dst A).tmps.getD t .unk = e.tmps.getD t .unk := by
  cases dst with
  | none => rfl
  | some d => exact getD_set_ne' _ _ _ _ _ (fun hh => h (by rw [hh]))

theorem put_evalO {e : Env} {dst d : Option Nat} {A : AV} {o : O} (hc : o.okc = true) (hr : ∀ t, dst = some t → t ∉ o.reads) (h : ∀ t, dst = some t → d ≠ some t) :
    evalO R (e.put dst A) d o = (evalO R e d o).map (fun y => y.put dst A) := by
  have hg : ∀ t ∈ o.reads, (e.put dst A).tmps.getD t .unk = e.tmps.getD t .unk := fun t ht => put_get (fun hh => hr t hh ht)
  by_cases hw : o.cls = .w
  · cases o <;> try (cases hw; done)
    case st n p x =>
      simp only [O.reads, List.mem_append] at hg
      simp only [evalO, get_same (e := e) (fun t h => hg t (.inl h)), get_same (e := e) (fun t h => hg t (.inr h)), put_storeA]
    case app E c by_ s x =>
      simp only [O.reads, List.mem_append] at hg
      simp only [evalO, get_same (e := e) (fun t h => hg t (.inl h)), get_same (e := e) (fun t h => hg t (.inr h)), put_elems, put_appendA h]
    case apps E s x =>
      simp only [O.reads, List.mem_append] at hg
      simp only [evalO, get_same (e := e) (fun t h => hg t (.inl h)), get_same (e := e) (fun t h => hg t (.inr h)), put_appendA h]
  · rw [evalO_act hw, evalO_act hw, act_sees (put_sees e dst A) (Bdd_true e) hc hw hg]
    cases act R e o with
    | none => rfl
    | some q =>
      obtain ⟨r, ks⟩ := q
      simp only [put_freeze]
      exact put_applyRes h

theorem put_evalOP {e : Env} {dst : Option Nat} {A : AV} {c : OP} (hc : c.op.okc = true) (hr : ∀ t, dst = some t → t ∉ c.reads) (h : ∀ t, dst = some t → c.dst ≠ some t) :
    evalOP R (e.put dst A) c = (evalOP R e c).map (fun y => y.put dst A) := by
  unfold evalOP
  have h1 := put_evalO (R := R) (e := e) (d := c.dst) (A := A) hc (fun t ht hh => hr t ht (by unfold OP.reads; exact List.mem_append.2 (.inr hh))) h
  cases hg : c.guard with
  | none => exact h1
  | some g =>
    obtain ⟨t, want⟩ := g
    simp only
    rw [put_get (fun hh => hr t hh (by unfold OP.reads; simp [hg])), h1]
    cases e.tmps.getD t .unk <;> try rfl
    · simp only [Option.map_some]; rw [put_put e h]
    simp only
    split
    · rfl
    · simp only [Option.map_some]; rw [put_put e h]

/-! ### Which temporary turns -/
theorem applyRes_tmps {d : Option Nat} {r : Res} (h : applyRes e d r = some e1) {t : Nat} (ht : d ≠ some t) : e1.tmps.getD t .unk = e.tmps.getD t .unk := by
  have := spec_of (ks := []) (e := e) h
  cases this with
  | val _ A _ h1 h2 => rw [h1]; exact put_get ht
  | mk d k _ hd h1 h2 => rw [h1]; exact getD_set_ne' _ _ _ _ _ (fun hh => ht (by rw [hh]))

theorem evalO_tmps {d : Option Nat} {o : O} (h : evalO R e d o = some e1) {t : Nat} (ht : d ≠ some t) : e1.tmps.getD t .unk = e.tmps.getD t .unk := by
  by_cases hw : o.cls = .w
  · cases o <;> try (cases hw; done)
    case st n p x =>
      simp only [evalO, storeA] at h
      (repeat' split at h) <;> first | (cases h; done) | (cases h; rfl)
    case app E c by_ s x =>
      simp only [evalO, appendA] at h
      (repeat' split at h) <;> first | (cases h; done) | (cases h; exact put_get ht)
    case apps E s x =>
      simp only [evalO, appendA] at h
      (repeat' split at h) <;> first | (cases h; done) | (cases h; exact put_get ht)
  · rw [evalO_act hw] at h
    cases ha : act R e o with
    | none => simp [ha] at h
    | some q =>
      obtain ⟨r, ks⟩ := q
      simp only [ha] at h
      exact applyRes_tmps (e := e.freeze ks) h ht

theorem evalOP_tmps {c : OP} (h : evalOP R e c = some e1) {t : Nat} (ht : c.dst ≠ some t) : e1.tmps.getD t .unk = e.tmps.getD t .unk := by
  unfold evalOP at h
  cases hg : c.guard with
  | none => rw [hg] at h; exact evalO_tmps h ht
  | some g =>
    obtain ⟨s, want⟩ := g
    rw [hg] at h
    simp only at h
    cases hb : e.tmps.getD s .unk <;> simp only [hb] at h <;> try (cases h; done)
    · cases h; exact put_get ht
    split at h
    · exact evalO_tmps h ht
    · cases h; exact put_get ht

/-! ### Keys that are given up stay so -/
theorem freeze_dead {ks : List Nat} {d : Nat} (hd : e.kind d = .dead) : (e.freeze ks).kind d = .dead := frzAt_dead (ks := ks) (freeze_at ks e d) hd
theorem setObj_dead {d d' g : Nat} {k : OK} (hd : e.kind d = .dead) (hne : d' ≠ d) : (e.setObj d' g k).kind d = .dead := by
  unfold Env.kind Env.setObj at *
  simp only [List.getElem?_set_ne hne]
  exact hd
theorem put_kind (e : Env) (dst : Option Nat) (A : AV) (d : Nat) : (e.put dst A).kind d = e.kind d := by cases dst <;> rfl

theorem live_ne {d d' g : Nat} {k : OK} (h : e.ok? d' g = some k) (hk : k.live = true) (hd : e.kind d = .dead) : d' ≠ d := fun hh => by
  subst hh
  rw [(Env.ok?_eq h).2.2] at hd
  rw [hd] at hk; cases hk

theorem appendA_dead {d : Option Nat} {E c by_ : Nat} {s : AV} {x : Option (List (List AV) × List Nat)} (h : appendA e d E c by_ s x = some e1) {t : Nat} (ht : d ≠ some t) (hd : e.kind t = .dead) : e1.kind t = .dead := by
  cases x with
  | none => simp [appendA] at h
  | some q =>
    obtain ⟨m, ks⟩ := q
    have hd' := freeze_dead (ks := ks) hd
    cases s <;> simp only [appendA] at h <;> try (cases h; done)
    case nil =>
      cases d with
      | none => simp at h
      | some d =>
        simp only at h
        split at h
        · cases h; rw [put_kind]; exact setObj_dead hd' (fun hh => ht (by rw [hh]))
        · cases h
    case own d' g =>
      cases hk : (e.freeze ks).ok? d' g with
      | none => simp [hk] at h
      | some k =>
        cases k <;> simp only [hk] at h <;> try (cases h; done)
        split at h
        · cases h; rw [put_kind]; exact setObj_dead hd' (live_ne hk rfl hd')
        · cases h

theorem evalO_dead {d : Option Nat} {o : O} (h : evalO R e d o = some e1) {t : Nat} (ht : d ≠ some t) (hd : e.kind t = .dead) : e1.kind t = .dead := by
  by_cases hw : o.cls = .w
  · cases o <;> try (cases hw; done)
    case st n p x =>
      simp only [evalO] at h
      cases hp : e.get p <;> simp only [hp, storeA] at h <;> try (cases h; done)
      case ptr d' g off =>
        cases hk : e.ok? d' g with
        | none => simp [hk] at h
        | some k =>
          cases k <;> simp only [hk] at h <;> try (cases h; done)
          split at h
          · cases h; exact setObj_dead hd (live_ne hk rfl hd)
          · cases h
      case rp d' g i j =>
        cases hc : e.cells (e.get x) with
        | none => simp [hc] at h
        | some q =>
          obtain ⟨m, ks⟩ := q
          simp only [hc] at h
          have hd' := freeze_dead (ks := ks) hd
          cases hk : (e.freeze ks).ok? d' g with
          | none => simp [hk] at h
          | some k =>
            cases k <;> simp only [hk] at h <;> try (cases h; done)
            split at h
            · cases h; exact setObj_dead hd' (live_ne hk rfl hd')
            · cases h
    case app E c by_ s x => exact appendA_dead h ht hd
    case apps E s x => exact appendA_dead h ht hd
  · rw [evalO_act hw] at h
    cases ha : act R e o with
    | none => simp [ha] at h
    | some q =>
      obtain ⟨r, ks⟩ := q
      simp only [ha] at h
      exact spec_dead (spec_of h) ht hd

theorem evalOP_dead {c : OP} (h : evalOP R e c = some e1) {t : Nat} (ht : c.dst ≠ some t) (hd : e.kind t = .dead) : e1.kind t = .dead := by
  unfold evalOP at h
  cases hg : c.guard with
  | none => rw [hg] at h; exact evalO_dead h ht hd
  | some g =>
    obtain ⟨s, want⟩ := g
    rw [hg] at h
    simp only at h
    cases hb : e.tmps.getD s .unk <;> simp only [hb] at h <;> try (cases h; done)
    · cases h; rw [put_kind]; exact hd
    split at h
    · exact evalO_dead h ht hd
    · cases h; rw [put_kind]; exact hd

/-! ### Two operations -/
structure Apart (a b : OP) : Prop where
  dst : ∀ d, a.dst = some d → d ∉ b.reads ∧ b.dst ≠ some d
  dst' : ∀ d, b.dst = some d → d ∉ a.reads
  cls : a.op.cls = .n ∨ b.op.cls = .n ∨ (a.op.cls = .v ∧ b.op.cls = .v)

theorem apartC_spec {a b : OP} (h : apartC a b = true) : Apart a b := by
  unfold apartC at h
  simp only [Bool.and_eq_true] at h
  obtain ⟨⟨h1, h2⟩, h3⟩ := h
  refine ⟨fun d hd => ?_, fun d hd => ?_, ?_⟩
  · rw [hd] at h1
    simp only [Bool.and_eq_true, Bool.not_eq_true', bne_iff_ne, ne_eq] at h1
    exact ⟨fun hh => by have := List.contains_iff_mem.2 hh; rw [this] at h1; exact absurd h1.1 (by decide), h1.2⟩
  · rw [hd] at h2
    simp only [Bool.not_eq_true'] at h2
    exact fun hh => by have := List.contains_iff_mem.2 hh; rw [this] at h2; exact absurd h2 (by decide)
  · cases ha : a.op.cls <;> cases hb : b.op.cls <;> simp [ha, hb] at h3 ⊢

/-- What it would make is not there yet. -/
def Dead (e : Env) (c : OP) : Prop := c.op.makes = true → ∀ d, c.dst = some d → e.kind d = .dead

structure Fit (e : Env) (cs : List OP) : Prop where
  bdd : Bdd e.q e
  box1 : e.box1
  dead : ∀ c ∈ cs, Dead e c

theorem swap {a b : OP} (h : Apart a b) (hca : a.op.okc = true) (hcb : b.op.okc = true) (hf : b.op.cls = .v → Fit e [a, b])
    (h1 : evalOP R e a = some e1) (h2 : evalOP R e1 b = some e2) : ∃ e1', evalOP R e b = some e1' ∧ evalOP R e1' a = some e2 := by
  by_cases hna : a.op.cls = .n
  · have ha := evalOP_act (R := R) (e := e) (c := a) (by rw [hna]; decide)
    rw [h1] at ha
    cases hact : actOP R e a with
    | none => simp [hact] at ha
    | some q =>
      obtain ⟨r, ks⟩ := q
      obtain ⟨rfl, A, rfl⟩ := actOP_n_val hna hact
      simp only [hact, applyRes, Option.some.injEq] at ha
      subst ha
      have hp := put_evalOP (R := R) (e := e) (A := A) hcb (fun t ht => (h.dst t ht).1) (fun t ht => (h.dst t ht).2)
      have hfz : e.freeze [] = e := rfl
      rw [hfz] at h2
      rw [hp] at h2
      cases hb : evalOP R e b with
      | none => rw [hb] at h2; cases h2
      | some e1' =>
        rw [hb] at h2
        simp only [Option.map_some, Option.some.injEq] at h2
        subst h2
        refine ⟨e1', rfl, ?_⟩
        rw [evalOP_act (by rw [hna]; decide), actOP_n hna (fun t ht => evalOP_tmps hb (fun hh => h.dst' t hh ht)), hact]
        rfl
  · by_cases hnb : b.op.cls = .n
    · have hact : actOP R e1 b = actOP R e b := actOP_n hnb (fun t ht => evalOP_tmps h1 (fun hh => (h.dst t hh).1 ht))
      rw [evalOP_act (by rw [hnb]; decide), hact] at h2
      rw [evalOP_act (by rw [hnb]; decide)]
      cases hb : actOP R e b with
      | none => simp [hb] at h2
      | some q =>
        obtain ⟨r, ks⟩ := q
        obtain ⟨rfl, A, rfl⟩ := actOP_n_val hnb hb
        simp only [hb, applyRes, Option.some.injEq] at h2 ⊢
        subst h2
        refine ⟨_, rfl, ?_⟩
        have hfz : e.freeze [] = e := rfl
        have hfz1 : e1.freeze [] = e1 := rfl
        rw [hfz, hfz1, put_evalOP (R := R) hca (fun t ht => h.dst' t ht) (fun t ht => fun hh => (h.dst t hh).2 ht), h1]
        rfl
    · have hv : a.op.cls = .v ∧ b.op.cls = .v := by
        rcases h.cls with hh | hh | hh
        · exact absurd hh hna
        · exact absurd hh hnb
        · exact hh
      have hwa : a.op.cls ≠ .w := by rw [hv.1]; decide
      have hwb : b.op.cls ≠ .w := by rw [hv.2]; decide
      have hF := hf hv.2
      rw [evalOP_act hwa] at h1
      rw [evalOP_act hwb] at h2
      cases hA : actOP R e a with
      | none => simp [hA] at h1
      | some qa =>
        obtain ⟨ra, ka⟩ := qa
        simp only [hA] at h1
        have hma : ra.made e a.dst := fun k d hk hd => by subst hk; exact hF.dead a (by simp) (actOP_makes hA) d hd
        have hs1 := spec_sees (spec_of h1) hma
        have hB1 : actOP R e1 b = actOP R e b := actOP_sees hs1 hF.bdd hcb hwb (fun t ht => applyRes_tmps (e := e.freeze ka) h1 (fun hh => (h.dst t hh).1 ht))
        rw [hB1] at h2
        cases hB : actOP R e b with
        | none => simp [hB] at h2
        | some qb =>
          obtain ⟨rb, kb⟩ := qb
          simp only [hB] at h2
          have hmb : rb.made e b.dst := fun k d hk hd => by subst hk; exact hF.dead b (by simp) (actOP_makes hB) d hd
          obtain ⟨e1', h3, h4⟩ := eff_swap h1 h2 (fun d hd => (h.dst d hd).2) hma hmb (actOP_ok hF.bdd hF.box1 hca hA).1 (actOP_ok hF.bdd hF.box1 hcb hB).1
          refine ⟨e1', ?_, ?_⟩
          · rw [evalOP_act hwb, hB]; exact h3
          · have hs2 := spec_sees (spec_of h3) hmb
            rw [evalOP_act hwa, actOP_sees hs2 hF.bdd hca hwa (fun t ht => applyRes_tmps (e := e.freeze kb) h3 (fun hh => h.dst' t hh ht)), hA]
            exact h4

def okDst (a b : OP) : Prop := (a.op.makes = true ∨ b.op.makes = true) → ∀ d, a.dst = some d → b.dst ≠ some d

theorem Fit.step {a : OP} {cs : List OP} (hF : Fit e (a :: cs)) (hca : a.op.okc = true) (hw : a.op.cls ≠ .w) (hdst : ∀ c ∈ cs, okDst a c) (h : evalOP R e a = some e1) : Fit e1 cs := by
  have h' := h
  rw [evalOP_act hw] at h
  cases hA : actOP R e a with
  | none => simp [hA] at h
  | some qa =>
    obtain ⟨ra, ka⟩ := qa
    simp only [hA] at h
    obtain ⟨i1, i2⟩ := spec_bdd (spec_of h) hF.bdd hF.box1 (actOP_ok hF.bdd hF.box1 hca hA).2
    refine ⟨i1, i2, fun c hc hm d hd => ?_⟩
    exact evalOP_dead h' (fun hh => hdst c hc (.inr hm) d hh hd) (hF.dead c (by simp [hc]) hm d hd)

theorem bubble : ∀ (l1 : List OP) (o : OP) (l2 : List OP) (e : Env), (∀ p ∈ l1, Apart p o) → (∀ p ∈ o :: l1, p.op.okc = true) → l1.Pairwise okDst → (∀ p ∈ l1, okDst p o) → (o.op.cls = .v → Fit e (o :: l1)) →
    evalOps R (l1 ++ o :: l2) e = some e' → ∃ e1, evalOP R e o = some e1 ∧ evalOps R (l1 ++ l2) e1 = some e'
  | [], o, l2, e, _, _, _, _, _, h => by
    simp only [List.nil_append, evalOps] at h ⊢
    cases ho : evalOP R e o with
    | none => simp [ho] at h
    | some e1 => simp only [ho] at h; exact ⟨e1, rfl, h⟩
  | p :: l1, o, l2, e, hap, hok, hpw, hpo, hF, h => by
    simp only [List.cons_append, evalOps] at h
    cases hp : evalOP R e p with
    | none => simp [hp] at h
    | some e1 =>
      simp only [hp] at h
      have hap0 := hap p (by simp)
      have hF1 : o.op.cls = .v → Fit e1 (o :: l1) := fun hv => by
        have hw : p.op.cls ≠ .w := by
          rcases hap0.cls with hh | hh | hh
          · rw [hh]; decide
          · rw [hv] at hh; cases hh
          · rw [hh.1]; decide
        have hF' : Fit e (p :: o :: l1) := ⟨(hF hv).bdd, (hF hv).box1, fun c hc => (hF hv).dead c (by
          simp only [List.mem_cons] at hc ⊢
          rcases hc with rfl | rfl | hc
          · exact .inr (.inl rfl)
          · exact .inl rfl
          · exact .inr (.inr hc))⟩
        refine hF'.step (hok p (by simp)) hw (fun c hc => ?_) hp
        rcases List.mem_cons.1 hc with rfl | hc
        · exact hpo p (by simp)
        · exact (List.pairwise_cons.1 hpw).1 c hc
      obtain ⟨e2, h1, h2⟩ := bubble l1 o l2 e1 (fun q hq => hap q (by simp [hq])) (fun q hq => hok q (by
          simp only [List.mem_cons] at hq ⊢
          rcases hq with rfl | hq
          · exact .inl rfl
          · exact .inr (.inr hq))) (List.pairwise_cons.1 hpw).2 (fun q hq => hpo q (by simp [hq])) hF1 h
      obtain ⟨e1', h3, h4⟩ := swap hap0 (hok p (by simp)) (hok o (by simp)) (fun hv => ⟨(hF hv).bdd, (hF hv).box1, fun c hc => (hF hv).dead c (by
          simp only [List.mem_cons, List.not_mem_nil, or_false] at hc ⊢
          rcases hc with rfl | rfl
          · exact .inr (.inl rfl)
          · exact .inl rfl)⟩) hp h1
      refine ⟨e1', h3, ?_⟩
      simp only [List.cons_append, evalOps, h4]
      exact h2

end
end Go.Bv
