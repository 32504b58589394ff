/- BY VALUE, part 12b: a store into a box of one's own beside what does not read that box; an append beside what leads to no row. -/
import Derived.Test.YtnfmilnlekmjgaaBvReg3
import Derived.Test.YtnfmilnlekmjgaaBvReg1
set_option linter.unusedVariables false
set_option linter.unusedSimpArgs false
namespace Go.Bv

section
variable {R : Nat → List AV → Option AV} {e e1 e2 e' : Env} {d g : Nat} {l l' : List AV}

/-- The two tell one box differently, and nothing else. -/
structure But (d : Nat) (e e' : Env) : Prop where
  tmps : e'.tmps = e.tmps
  ok : ∀ d' g', e'.ok? d' g' = e.ok? d' g' ∨ (d' = d ∧ ∃ l l', e.ok? d' g' = some (.box l) ∧ e'.ok? d' g' = some (.box l'))

theorem ok?_gen {d g g' : Nat} {k : OK} (h : e.ok? d g = some k) (hne : g ≠ g') : e.ok? d g' = none := by
  cases h2 : e.ok? d g' with
  | none => rfl
  | some k' => exact absurd ((Env.ok?_eq h).2.1.symm.trans (Env.ok?_eq h2).2.1) hne

theorem but_set (hk : e.ok? d g = some (.box l)) : But d e (e.setObj d g (.box l')) := by
  obtain ⟨hlt, hg, _⟩ := Env.ok?_eq hk
  refine ⟨rfl, fun d' g' => ?_⟩
  rw [Env.setObj_ok? e d g d' g' _ hlt]
  by_cases h1 : d = d'
  · subst h1
    rw [if_pos rfl]
    by_cases h2 : g = g'
    · subst h2; exact .inr ⟨rfl, l, l', hk, by rw [if_pos rfl]⟩
    · rw [if_neg h2]; exact .inl (ok?_gen hk h2).symm
  · rw [if_neg h1]; exact .inl rfl

theorem view1_but (h : But d e e') (A : AV) : e'.view1 A = e.view1 A := by
  cases A <;> try rfl
  rename_i d' g'
  simp only [Env.view1]
  rcases h.ok d' g' with h1 | ⟨_, l, l', h1, h2⟩
  · rw [h1]
  · rw [h1, h2]
theorem views_but (h : But d e e') : ∀ l : List AV, e'.views l = e.views l
  | [] => rfl
  | A :: l => by simp only [Env.views, view1_but h, views_but h l]
theorem cells_but (h : But d e e') (A : AV) : e'.cells A = e.cells A := by
  cases A <;> simp only [Env.cells, views_but h]
theorem arg_but (h : But d e e') (A : AV) : e'.arg A = e.arg A := by
  cases A <;> simp only [Env.arg, views_but h, view1_but h]
theorem get_but (h : But d e e') (x : X) : e'.get x = e.get x := by
  cases x with
  | t n => simp only [Env.get, h.tmps]
  | c A => rfl
theorem args_but (h : But d e e') : ∀ xs : List X, e'.args xs = e.args xs
  | [] => rfl
  | x :: xs => by simp only [Env.args, get_but h, arg_but h, args_but h xs]
theorem lits_but (h : But d e e') (c : Nat) : ∀ xs : List X, lits e' c xs = lits e c xs
  | [] => rfl
  | x :: xs => by simp only [lits, get_but h, cells_but h, lits_but h c xs]
theorem fill_but (h : But d e e') : ∀ (ps : List (Nat × Nat × X)) (z : List AV), fill e' z ps = fill e z ps
  | [], z => rfl
  | (off, n, x) :: ps, z => by
    simp only [fill, get_but h, cells_but h]
    cases e.cells (e.get x) with
    | none => rfl
    | some r => obtain ⟨l, ks⟩ := r; simp only [fill_but h ps]
theorem elems_but (h : But d e e') (A : AV) : e'.elems A = e.elems A := by
  cases A <;> try rfl
  rename_i d' g'
  simp only [Env.elems]
  rcases h.ok d' g' with h1 | ⟨_, l, l', h1, h2⟩
  · rw [h1]
  · rw [h1, h2]
theorem oget_but (h : But d e e') (x : Option X) : x.map e'.get = x.map e.get := by
  cases x with
  | none => rfl
  | some x => simp only [Option.map_some, get_but h]

/-- The box that an operation reads. -/
def ldOf : O → Option X
  | .ld _ x => some x
  | _ => none

theorem act_but (h : But d e e') {o : O} (hw : o.cls ≠ .w) (hl : ∀ x, ldOf o = some x → ∀ g off, e.get x ≠ .ptr d g off) : act R e' o = act R e o := by
  cases o <;> try (exact absurd rfl hw)
  case ld n x =>
    have hl2 := hl x rfl
    cases n with
    | none =>
      simp only [act, get_but h]
      cases hx : e.get x <;> try rfl
      · rename_i d' g' off
        rcases h.ok d' g' with h1 | ⟨h0, l, l', h1, h2⟩
        · simp only [h1]
        · subst h0; exact absurd hx (hl2 g' off)
      · rename_i d' g' i j
        rcases h.ok d' g' with h1 | ⟨h0, l, l', h1, h2⟩
        · simp only [h1]
        · simp only [h1, h2]
    | some n =>
      simp only [act, get_but h, views_but h]
      cases hx : e.get x <;> try rfl
      · rename_i d' g' off
        rcases h.ok d' g' with h1 | ⟨h0, l, l', h1, h2⟩
        · simp only [h1]
        · subst h0; exact absurd hx (hl2 g' off)
      · rename_i d' g' i j
        rcases h.ok d' g' with h1 | ⟨h0, l, l', h1, h2⟩
        · simp only [h1]
        · simp only [h1, h2]
  case fa off n x =>
    simp only [act, get_but h]
    cases hx : e.get x <;> try rfl
    · rename_i d' g' o
      rcases h.ok d' g' with h1 | ⟨h0, l, l', h1, h2⟩
      · simp only [h1]
      · simp only [h1, h2]
    · rename_i d' g' i j
      rcases h.ok d' g' with h1 | ⟨h0, l, l', h1, h2⟩
      · simp only [h1]
      · simp only [h1, h2]
  case nck x =>
    simp only [act, get_but h]
    cases hx : e.get x <;> try rfl
    · rename_i d' g' o
      rcases h.ok d' g' with h1 | ⟨h0, l, l', h1, h2⟩
      · simp only [h1]
      · simp only [h1, h2]
    · rename_i d' g' i j
      rcases h.ok d' g' with h1 | ⟨h0, l, l', h1, h2⟩
      · simp only [h1]
      · simp only [h1, h2]
  case ia c x i =>
    simp only [act, get_but h]
    cases hi : e.get i <;> try rfl
    cases hx : e.get x <;> try rfl
    rename_i d' g'
    rcases h.ok d' g' with h1 | ⟨h0, l, l', h1, h2⟩
    · simp only [h1]
    · simp only [h1, h2]
  case bldo z ps j x =>
    simp only [act, get_but h, fill_but h]
    cases hx : e.get x <;> try rfl
    rename_i d' g'
    rcases h.ok d' g' with h1 | ⟨h0, l, l', h1, h2⟩
    · simp only [h1]
    · simp only [h1, h2]
  case subs x lo hi => simp only [act, get_but h, oget_but h]
  case sub c x lo hi => simp only [act, get_but h, oget_but h, elems_but h]
  all_goals simp only [act, get_but h, cells_but h, lits_but h, fill_but h, elems_but h, args_but h]

theorem actOP_but (h : But d e e') {c : OP} (hw : c.op.cls ≠ .w) (hl : ∀ x, ldOf c.op = some x → ∀ g off, e.get x ≠ .ptr d g off) : actOP R e' c = actOP R e c := by
  unfold actOP
  rw [act_but h hw hl, h.tmps]

theorem setBox_freeze (ks : List Nat) (d g : Nat) (l' : List AV) : (e.setObj d g (.box l')).freeze ks = (e.freeze ks).setObj d g (.box l') := by
  refine Env.ext2 rfl (fun i => ?_)
  rw [freeze_at]
  simp only [Env.setObj]
  rw [List.getElem?_set, List.getElem?_set, freeze_at, freeze_len]
  by_cases hi : d = i
  · subst hi
    simp only [if_true]
    by_cases hlt : d < e.objs.length
    · simp only [if_pos hlt]; split <;> rfl
    · simp only [if_neg hlt, Option.map_none, ite_self]
  · simp only [if_neg hi]

theorem applyRes_box {r : Res} {dst : Option Nat} {k0 : OK} (hd : d < e.objs.length) (hne : ∀ k W t, r = .mk k W → dst = some t → t ≠ d) :
    applyRes (e.setObj d g k0) dst r = (applyRes e dst r).map (fun y => y.setObj d g k0) := by
  cases r with
  | val A => simp only [applyRes, Option.map_some, put_setObj]
  | mk k W =>
    cases dst with
    | none => rfl
    | some t =>
      have ht := hne k W t rfl rfl
      simp only [applyRes, Env.setObj_len, Env.setObj_gen e d g t k0 hd, if_neg (Ne.symm ht)]
      split
      · simp only [Option.map_some]
        congr 1
        simp only [Env.setObj, Env.put]
        rw [List.set_comm _ _ ht]
      · rfl

theorem store_ptr {n : Nat} {x : AV} {off : Nat} (h : storeA e n (.ptr d g off) x = some e') :
    ∃ l, e.ok? d g = some (.box l) ∧ (partsA x).length = n ∧ off + n ≤ l.length ∧ (partsA x).all e.cellOk = true ∧ e' = e.setObj d g (.box (splice l off (partsA x))) := by
  simp only [storeA] at h
  split at h
  · rename_i l hk
    split at h
    · rename_i hc
      cases h
      exact ⟨l, hk, hc.1, hc.2.1, hc.2.2, rfl⟩
    · cases h
  · cases h
theorem store_of {n : Nat} {x : AV} {off : Nat} (h1 : e.ok? d g = some (.box l)) (h2 : (partsA x).length = n) (h3 : off + n ≤ l.length) (h4 : (partsA x).all e.cellOk = true) :
    storeA e n (.ptr d g off) x = some (e.setObj d g (.box (splice l off (partsA x)))) := by
  simp only [storeA, h1]
  rw [if_pos ⟨h2, h3, h4⟩]

theorem cellOk_own {d g : Nat} : e.cellOk (.own d g) = true ↔ ∃ E c l, e.cont d g = some (.row E c l) := by
  simp only [Env.cellOk, Env.cont]
  cases e.ok? d g with
  | none => simp
  | some k => cases k <;> simp [OK.cont]
theorem cellOk_sees {q : Nat → Nat → Prop} (hs : Sees q e e') {A : AV} (hb : bdd1 q A) : e'.cellOk A = e.cellOk A := by
  cases A <;> try rfl
  rename_i d g
  rw [Bool.eq_iff_iff, cellOk_own, cellOk_own, hs.cont d g hb]
theorem parts_bdd {q : Nat → Nat → Prop} {A : AV} (h : bddA q A) : ∀ B ∈ partsA A, bdd1 q B := by
  cases A
  case agg => exact h
  case aggo j d g l =>
    intro B hB
    rcases List.mem_or_eq_of_mem_set hB with hh | hh
    · exact h.2 B hh
    · subst hh; exact h.1
  all_goals (intro B hB; simp only [partsA, List.mem_singleton] at hB; subst hB; exact bddA_1 h)
theorem cellsOk_sees {q : Nat → Nat → Prop} (hs : Sees q e e') {A : AV} (hb : bddA q A) : (partsA A).all e'.cellOk = (partsA A).all e.cellOk := by
  have : ∀ l : List AV, (∀ B ∈ l, bdd1 q B) → l.all e'.cellOk = l.all e.cellOk := by
    intro l
    induction l with
    | nil => intro _; rfl
    | cons B l ih => intro h; simp only [List.all_cons, cellOk_sees hs (h B (by simp)), ih (fun B hB => h B (by simp [hB]))]
  exact this _ (parts_bdd hb)

theorem root_ptr {d d' : Nat} {A : AV} (h : rootIs d' A = true) (hne : d' ≠ d) : ∀ g off, A ≠ .ptr d g off := fun g off hh => by
  subst hh
  simp only [rootIs, beq_iff_eq] at h
  exact hne h.symm

/-- A store, and then what doesn't read that box. -/
theorem swap_st_v {a b : OP} {n : Nat} {p x : X} (hga : a.guard = none) (hda : a.dst = none) (hoa : a.op = .st n p x) (hb : b.op.cls = .v) (hcb : b.op.okc = true) (hoc : a.op.okc = true) (hr : ∀ t, b.dst = some t → t ∉ a.reads)
    {d : Nat} (hsm : d < 1000000) (hp : rootIs d (e.get p) = true) (hl : ∀ y, ldOf b.op = some y → ∀ g off, e.get y ≠ .ptr d g off) (hF : Fit e [a, b])
    (h1 : evalOP R e a = some e1) (h2 : evalOP R e1 b = some e2) : ∃ e1', evalOP R e b = some e1' ∧ evalOP R e1' a = some e2 := by
  have hwb : b.op.cls ≠ .w := by rw [hb]; decide
  have hreads : a.reads = p.tmp ++ x.tmp := by unfold OP.reads; rw [hga, hoa]; rfl
  have ha : ∀ y, evalOP R y a = storeA y n (y.get p) (y.get x) := fun y => by unfold evalOP; rw [hga, hoa]; rfl
  rw [ha] at h1
  cases hgp : e.get p <;> rw [hgp] at h1 hp <;> try (simp only [storeA] at h1; cases h1; done)
  case rp => simp only [rootIs, Nat.ble_eq] at hp; omega
  rename_i d' g off
  have hdd : d' = d := by simpa [rootIs] using hp
  subst hdd
  obtain ⟨l, k1, k2, k3, k4, rfl⟩ := store_ptr h1
  have hlt := (Env.ok?_eq k1).1
  rw [evalOP_act hwb, actOP_but (but_set k1) hwb hl] at h2
  cases hB : actOP R e b with
  | none => simp [hB] at h2
  | some q =>
    obtain ⟨rb, kb⟩ := q
    simp only [hB] at h2
    have hmb : rb.made e b.dst := fun k W t hk ht => by subst hk; exact hF.dead b (by simp) (actOP_makes hB) t ht
    have hne : ∀ k W t, rb = .mk k W → b.dst = some t → t ≠ d' := fun k W t hk ht hh => by
      have := hmb k W t hk ht
      rw [hh, (Env.ok?_eq k1).2.2] at this; cases this
    rw [setBox_freeze, applyRes_box (by rw [freeze_len]; exact hlt) hne] at h2
    cases hr1 : applyRes (e.freeze kb) b.dst rb with
    | none => rw [hr1] at h2; cases h2
    | some e1' =>
      rw [hr1] at h2
      simp only [Option.map_some, Option.some.injEq] at h2
      subst h2
      refine ⟨e1', by rw [evalOP_act hwb, hB]; exact hr1, ?_⟩
      have hs := spec_sees (spec_of hr1) hmb
      have hg1 : e1'.get p = e.get p := get_same (fun t ht => applyRes_tmps (e := e.freeze kb) hr1 (fun hh => hr t hh (by rw [hreads]; simp [ht])))
      have hg2 : e1'.get x = e.get x := get_same (fun t ht => applyRes_tmps (e := e.freeze kb) hr1 (fun hh => hr t hh (by rw [hreads]; simp [ht])))
      rw [hoa] at hoc
      simp only [O.okc, Bool.and_eq_true] at hoc
      have q1 : e1'.ok? d' g = some (.box l) := by
        rw [cont_box, hs.cont d' g (Nat.le_of_eq (Env.ok?_eq k1).2.1.symm)]
        exact cont_box.1 k1
      rw [ha, hg1, hg2, hgp, store_of q1 k2 k3 (by rw [cellsOk_sees hs (get_bdd hF.bdd hoc.2)]; exact k4)]

/-- What doesn't read a box, and then a store into it. -/
theorem swap_v_st {a b : OP} {n : Nat} {p x : X} (hgb : b.guard = none) (hdb : b.dst = none) (hob : b.op = .st n p x) (ha : a.op.cls = .v) (hoc : b.op.okc = true) (hr : ∀ t, a.dst = some t → t ∉ b.reads)
    {d : Nat} (hsm : d < 1000000) (hp : rootIs d (e.get p) = true) (hl : ∀ y, ldOf a.op = some y → ∀ g off, e.get y ≠ .ptr d g off) (hF : Fit e [a, b])
    (h1 : evalOP R e a = some e1) (h2 : evalOP R e1 b = some e2) : ∃ e1', evalOP R e b = some e1' ∧ evalOP R e1' a = some e2 := by
  have hwa : a.op.cls ≠ .w := by rw [ha]; decide
  have hreads : b.reads = p.tmp ++ x.tmp := by unfold OP.reads; rw [hgb, hob]; rfl
  have hb : ∀ y, evalOP R y b = storeA y n (y.get p) (y.get x) := fun y => by unfold evalOP; rw [hgb, hob]; rfl
  rw [evalOP_act hwa] at h1
  cases hA : actOP R e a with
  | none => simp [hA] at h1
  | some q =>
    obtain ⟨ra, ka⟩ := q
    simp only [hA] at h1
    have hma : ra.made e a.dst := fun k W t hk ht => by subst hk; exact hF.dead a (by simp) (actOP_makes hA) t ht
    have hs := spec_sees (spec_of h1) hma
    have hg1 : e1.get p = e.get p := get_same (fun t ht => applyRes_tmps (e := e.freeze ka) h1 (fun hh => hr t hh (by rw [hreads]; simp [ht])))
    have hg2 : e1.get x = e.get x := get_same (fun t ht => applyRes_tmps (e := e.freeze ka) h1 (fun hh => hr t hh (by rw [hreads]; simp [ht])))
    rw [hob] at hoc
    simp only [O.okc, Bool.and_eq_true] at hoc
    have hbp := get_bdd hF.bdd hoc.1
    rw [hb, hg1, hg2] at h2
    cases hgp : e.get p <;> rw [hgp] at h2 hp hbp <;> try (simp only [storeA] at h2; cases h2; done)
    case rp => simp only [rootIs, Nat.ble_eq] at hp; omega
    rename_i d' g off
    have hdd : d' = d := by simpa [rootIs] using hp
    subst hdd
    obtain ⟨l, k1, k2, k3, k4, rfl⟩ := store_ptr h2
    have q1 : e.ok? d' g = some (.box l) := by
      rw [cont_box, ← hs.cont d' g hbp]
      exact cont_box.1 k1
    have hlt := (Env.ok?_eq q1).1
    refine ⟨_, by rw [hb, hgp]; exact store_of q1 k2 k3 (by rw [← cellsOk_sees hs (get_bdd hF.bdd hoc.2)]; exact k4), ?_⟩
    have hne : ∀ k W t, ra = .mk k W → a.dst = some t → t ≠ d' := fun k W t hk ht hh => by
      have := hma k W t hk ht
      rw [hh, (Env.ok?_eq q1).2.2] at this; cases this
    rw [evalOP_act hwa, actOP_but (but_set q1) hwa hl, hA]
    simp only
    rw [setBox_freeze, applyRes_box (by rw [freeze_len]; exact hlt) hne, h1]
    rfl

/-! ### Beside an operation that gives a value and does nothing else -/
theorem swap_quiet_r {a b : OP} {A : AV} (hca : a.op.okc = true) (hwb : b.op.cls ≠ .w) (hr : ∀ t, b.dst = some t → t ∉ a.reads) (hd : ∀ t, b.dst = some t → a.dst ≠ some t)
    (h1 : evalOP R e a = some e1) (h2 : evalOP R e1 b = some e2) (q1 : actOP R e1 b = some (.val A, [])) (q2 : actOP R e b = some (.val A, [])) : ∃ e1', evalOP R e b = some e1' ∧ evalOP R e1' a = some e2 := by
  rw [evalOP_act hwb, q1] at h2
  simp only [applyRes, Option.some.injEq] at h2
  have hfz : ∀ y : Env, y.freeze [] = y := fun _ => rfl
  rw [hfz] at h2
  refine ⟨e.put b.dst A, by rw [evalOP_act hwb, q2]; rfl, ?_⟩
  rw [put_evalOP hca hr hd, h1, ← h2]
  rfl
theorem swap_quiet_l {a b : OP} {A : AV} (hcb : b.op.okc = true) (hwa : a.op.cls ≠ .w) (hr : ∀ t, a.dst = some t → t ∉ b.reads) (hd : ∀ t, a.dst = some t → b.dst ≠ some t)
    (h1 : evalOP R e a = some e1) (h2 : evalOP R e1 b = some e2) (q1 : actOP R e a = some (.val A, [])) (q2 : ∀ e1', evalOP R e b = some e1' → actOP R e1' a = some (.val A, [])) : ∃ e1', evalOP R e b = some e1' ∧ evalOP R e1' a = some e2 := by
  rw [evalOP_act hwa, q1] at h1
  simp only [applyRes, Option.some.injEq] at h1
  have hfz : ∀ y : Env, y.freeze [] = y := fun _ => rfl
  rw [hfz] at h1
  subst h1
  rw [put_evalOP hcb hr hd] at h2
  cases hb : evalOP R e b with
  | none => rw [hb] at h2; cases h2
  | some e1' =>
    rw [hb] at h2
    simp only [Option.map_some, Option.some.injEq] at h2
    refine ⟨e1', rfl, ?_⟩
    rw [evalOP_act hwa, q2 e1' hb]
    simp only [applyRes, hfz, Option.some.injEq]
    exact h2

theorem view1_flat {A B : AV} {ks : List Nat} (hA : A.flat = true) (h : e.view1 A = some (B, ks)) : ks = [] ∧ ∀ y : Env, y.view1 A = some (B, ks) := by
  cases A <;> simp only [Env.view1, Option.some.injEq, Prod.mk.injEq, reduceCtorEq] at h <;> (try (cases hA; done)) <;> exact ⟨h.2.symm, fun y => by simp only [Env.view1]; rw [h.1, h.2]⟩
theorem pure_flat {A : AV} (h : A.pure = true) : A.flat = true := by cases A <;> first | rfl | (simp [AV.pure] at h)
theorem views_flat : ∀ {l m : List AV} {ks : List Nat}, (∀ A ∈ l, A.flat = true) → e.views l = some (m, ks) → ks = [] ∧ ∀ y : Env, y.views l = some (m, ks)
  | [], m, ks, _, h => by
    simp only [Env.views, Option.some.injEq, Prod.mk.injEq] at h
    obtain ⟨rfl, rfl⟩ := h
    exact ⟨rfl, fun _ => rfl⟩
  | A :: l, m, ks, hl, h => by
    simp only [Env.views] at h
    cases h1 : e.view1 A with
    | none => simp [h1] at h
    | some q =>
      obtain ⟨B, k1⟩ := q
      cases h2 : e.views l with
      | none => simp [h1, h2] at h
      | some q =>
        obtain ⟨m', k2⟩ := q
        simp only [h1, h2, Option.some.injEq, Prod.mk.injEq] at h
        obtain ⟨rfl, rfl⟩ := h
        obtain ⟨rfl, f1⟩ := view1_flat (hl A (by simp)) h1
        obtain ⟨rfl, f2⟩ := views_flat (fun B hB => hl B (by simp [hB])) h2
        exact ⟨rfl, fun y => by simp only [Env.views, f1 y, f2 y]⟩
theorem cells_flat {A : AV} {m : List AV} {ks : List Nat} (hA : A.flat = true) (h : e.cells A = some (m, ks)) : ks = [] ∧ ∀ y : Env, y.cells A = some (m, ks) := by
  cases A <;> simp only [Env.cells] at h ⊢ <;> first
    | (cases hA; done)
    | exact views_flat (fun B hB => by rw [List.mem_singleton] at hB; subst hB; exact hA) h
    | exact views_flat (fun B hB => pure_flat (by simp only [AV.flat, List.all_eq_true] at hA; exact hA B hB)) h
theorem lits_flat {c : Nat} : ∀ {xs : List X} {m : List (List AV)} {ks : List Nat}, (∀ x ∈ xs, (e.get x).flat = true) → lits e c xs = some (m, ks) → ks = [] ∧ ∀ y : Env, (∀ x ∈ xs, y.get x = e.get x) → lits y c xs = some (m, ks)
  | [], m, ks, _, h => by
    simp only [lits, Option.some.injEq, Prod.mk.injEq] at h
    obtain ⟨rfl, rfl⟩ := h
    exact ⟨rfl, fun _ _ => rfl⟩
  | x :: xs, m, ks, hx, h => by
    simp only [lits] at h
    cases h1 : e.cells (e.get x) with
    | none => simp [h1] at h
    | some q =>
      obtain ⟨B, k1⟩ := q
      simp only [h1] at h
      by_cases hc : B.length = c
      · rw [if_pos hc] at h
        cases h2 : lits e c xs with
        | none => simp [h2] at h
        | some q =>
          obtain ⟨m', k2⟩ := q
          simp only [h2, Option.some.injEq, Prod.mk.injEq] at h
          obtain ⟨rfl, rfl⟩ := h
          obtain ⟨rfl, f1⟩ := cells_flat (hx x (by simp)) h1
          obtain ⟨rfl, f2⟩ := lits_flat (fun z hz => hx z (by simp [hz])) h2
          exact ⟨rfl, fun y hy => by simp only [lits, hy x (by simp), f1 y, if_pos hc, f2 y (fun z hz => hy z (by simp [hz]))]⟩
      · rw [if_neg hc] at h; cases h

/-! ### Which slots lead where: asked at the region's start, kept by its operations -/
abbrev Roots := List (Nat × Nat)
structure Asked (ρ : Roots) (ν : List Nat) (e : Env) : Prop where
  root : ∀ p ∈ ρ, rootIs p.2 (e.tmps.getD p.1 .unk) = true
  flat : ∀ t ∈ ν, (e.tmps.getD t .unk).flat = true
theorem asked_of (ρ : Roots) (ν : List Nat) (h : askedB ρ ν e = true) : Asked ρ ν e := by
  simp only [askedB, Bool.and_eq_true, List.all_eq_true] at h
  exact ⟨h.1, h.2⟩

def plainO : O → Bool
  | .bin .. | .beq .. | .eqs .. | .un .. | .cvi .. | .cvs _ | .lens _ | .ix .. | .subs .. | .mnx .. | .lkp .. | .len _ => true
  | _ => false
theorem plainO_pure {o : O} (h : plainO o = true) {r : Res} {ks : List Nat} (ha : act R e o = some (r, ks)) : ∃ A, r = .val A ∧ A.flat = true := by
  cases o <;> (try (cases h; done)) <;> simp only [act] at ha <;> (repeat' split at ha) <;> (try (cases ha; done)) <;>
    (simp only [Option.some.injEq, Prod.mk.injEq] at ha; obtain ⟨rfl, _⟩ := ha; refine ⟨_, rfl, ?_⟩) <;> first
    | rfl
    | exact pure_flat (binA_pure (by assumption))
    | exact pure_flat (unA_pure (by assumption))
    | exact pure_flat (mnxA_pure (by assumption))

def keepsC (ρ : Roots) (ν : List Nat) (c : OP) : Bool := match c.dst with
  | none => true
  | some t => ρ.all (fun p => p.1 != t || (match c.op with
      | .fa _ _ (.t s) => ρ.contains (s, p.2)
      | .ia .. => Nat.ble 1000000 p.2
      | .box .. => p.2 == t
      | .new .. => p.2 == t
      | _ => false)) && (!ν.contains t || plainO c.op)

theorem put_at {dst : Option Nat} {A : AV} {t : Nat} (h : dst = some t) : (e.put dst A).tmps.getD t .unk = A ∨ (e.put dst A).tmps.getD t .unk = .unk := by
  subst h
  simp only [Env.put]
  rcases Nat.lt_or_ge t e.tmps.length with hlt | hge
  · exact .inl (getD_set_eq _ _ _ _ hlt)
  · right; rw [List.getD_eq_getElem?_getD, List.getElem?_eq_none (by simpa using hge)]; rfl

/-- The destination of an operation that doesn't write. -/
theorem evalOP_at {c : OP} (hw : c.op.cls ≠ .w) (h : evalOP R e c = some e1) {t : Nat} (ht : c.dst = some t) :
    e1.tmps.getD t .unk = .unk ∨ e1.tmps.getD t .unk = .und ∨ ∃ r ks, act R e c.op = some (r, ks) ∧ ((∃ A, r = .val A ∧ e1.tmps.getD t .unk = A) ∨ ∃ k W g, r = .mk k W ∧ e1.tmps.getD t .unk = k.refW W t g) := by
  have key : ∀ {r : Res} {ks : List Nat}, applyRes (e.freeze ks) c.dst r = some e1 → e1.tmps.getD t .unk = .unk ∨ (∃ A, r = .val A ∧ e1.tmps.getD t .unk = A) ∨ ∃ k W g, r = .mk k W ∧ e1.tmps.getD t .unk = k.refW W t g := by
    intro r ks h
    cases r with
    | val A =>
      simp only [applyRes, Option.some.injEq] at h
      subst h
      rcases put_at (e := e.freeze ks) (A := A) ht with hh | hh
      · exact .inr (.inl ⟨A, rfl, hh⟩)
      · exact .inl hh
    | mk k W =>
      rw [ht] at h
      simp only [applyRes] at h
      split at h
      · simp only [Option.some.injEq] at h
        subst h
        rcases put_at (e := (e.freeze ks).setObj t ((e.freeze ks).gen t + 1) k) (A := k.refW W t ((e.freeze ks).gen t + 1)) (dst := some t) rfl with hh | hh
        · exact .inr (.inr ⟨k, W, _, rfl, hh⟩)
        · exact .inl hh
      · cases h
  unfold evalOP at h
  have act' : evalO R e c.dst c.op = some e1 → e1.tmps.getD t .unk = .unk ∨ e1.tmps.getD t .unk = .und ∨ ∃ r ks, act R e c.op = some (r, ks) ∧ ((∃ A, r = .val A ∧ e1.tmps.getD t .unk = A) ∨ ∃ k W g, r = .mk k W ∧ e1.tmps.getD t .unk = k.refW W t g) := by
    intro h
    rw [evalO_act hw] at h
    cases ha : act R e c.op with
    | none => simp [ha] at h
    | some q =>
      obtain ⟨r, ks⟩ := q
      simp only [ha] at h
      rcases key h with hh | hh
      · exact .inl hh
      · exact .inr (.inr ⟨r, ks, rfl, hh⟩)
  cases hg : c.guard with
  | none => rw [hg] at h; exact act' h
  | some q =>
    obtain ⟨s, want⟩ := q
    rw [hg] at h
    simp only at h
    have und : some (e.put c.dst .und) = some e1 → e1.tmps.getD t .unk = .unk ∨ e1.tmps.getD t .unk = .und := fun hh => by
      simp only [Option.some.injEq] at hh
      subst hh
      rcases put_at (e := e) (A := .und) ht with hh | hh
      · exact .inr hh
      · exact .inl hh
    cases hb : e.tmps.getD s .unk <;> simp only [hb] at h <;> try (cases h; done)
    · rcases und h with hh | hh
      · exact .inl hh
      · exact .inr (.inl hh)
    split at h
    · exact act' h
    · rcases und h with hh | hh
      · exact .inl hh
      · exact .inr (.inl hh)

theorem act_fa_root {off n s : Nat} {d : Nat} {r : Res} {ks : List Nat} (hr : rootIs d (e.tmps.getD s .unk) = true) (ha : act R e (.fa off n (.t s)) = some (r, ks)) : ∃ A, r = .val A ∧ rootIs d A = true := by
  simp only [act, Env.get] at ha
  cases hx : e.tmps.getD s .unk <;> simp only [hx] at ha hr <;> try (cases ha; done)
  · split at ha
    · simp only [Option.some.injEq, Prod.mk.injEq] at ha
      obtain ⟨rfl, _⟩ := ha
      exact ⟨_, rfl, hr⟩
    · cases ha
  · split at ha
    · simp only [Option.some.injEq, Prod.mk.injEq] at ha
      obtain ⟨rfl, _⟩ := ha
      exact ⟨_, rfl, hr⟩
    · cases ha
  · simp only [Option.some.injEq, Prod.mk.injEq] at ha
    obtain ⟨rfl, _⟩ := ha
    exact ⟨_, rfl, rfl⟩

theorem asked_step {ρ : Roots} {ν : List Nat} {c : OP} (h : Asked ρ ν e) (hk : keepsC ρ ν c = true) (he : evalOP R e c = some e1) : Asked ρ ν e1 := by
  cases hd : c.dst with
  | none =>
    have hs : ∀ t, e1.tmps.getD t .unk = e.tmps.getD t .unk := fun t => evalOP_tmps he (by rw [hd]; exact fun hh => nomatch hh)
    exact ⟨fun p hp => by rw [hs]; exact h.root p hp, fun t ht => by rw [hs]; exact h.flat t ht⟩
  | some t =>
    unfold keepsC at hk
    rw [hd] at hk
    simp only [Bool.and_eq_true, List.all_eq_true, Bool.or_eq_true, bne_iff_ne, ne_eq, Bool.not_eq_true'] at hk
    obtain ⟨k1, k2⟩ := hk
    have hs : ∀ t', t ≠ t' → e1.tmps.getD t' .unk = e.tmps.getD t' .unk := fun t' ht => evalOP_tmps he (by rw [hd]; exact fun hh => ht (by cases hh; rfl))
    refine ⟨fun p hp => ?_, fun t' ht => ?_⟩
    · by_cases hpt : p.1 = t
      · have hop := (k1 p hp).resolve_left (fun hh => hh hpt)
        rw [hpt]
        cases ho : c.op <;> rw [ho] at hop <;> try (cases hop; done)
        case fa off n x =>
          cases x with
          | c A => cases hop
          | t s =>
            simp only [List.contains_iff_mem] at hop
            rcases evalOP_at (by rw [ho]; exact fun hh => nomatch hh) he hd with hh | hh | ⟨r, ks, ha, hh⟩
            · rw [hh]; rfl
            · rw [hh]; rfl
            · rw [ho] at ha
              obtain ⟨A, rfl, hA⟩ := act_fa_root (h.root _ hop) ha
              rcases hh with ⟨B, hB, hh⟩ | ⟨k, W, g, hB, _⟩
              · cases hB; rw [hh]; exact hA
              · cases hB
        case ia c0 x i =>
          rcases evalOP_at (by rw [ho]; exact fun hh => nomatch hh) he hd with hh | hh | ⟨r, ks, ha, hh⟩
          · rw [hh]; rfl
          · rw [hh]; rfl
          · rw [ho] at ha
            have : ∃ A, r = .val A ∧ rootIs p.2 A = true := by
              simp only [act] at ha
              (repeat' split at ha) <;> first
                | (cases ha; done)
                | (simp only [Option.some.injEq, Prod.mk.injEq] at ha; obtain ⟨rfl, _⟩ := ha; exact ⟨_, rfl, by first | rfl | exact hop⟩)
            obtain ⟨A, rfl, hA⟩ := this
            rcases hh with ⟨B, hB, hh⟩ | ⟨k, W, g, hB, _⟩
            · cases hB; rw [hh]; exact hA
            · cases hB
        case box T x =>
          simp only [beq_iff_eq] at hop
          rcases evalOP_at (by rw [ho]; exact fun hh => nomatch hh) he hd with hh | hh | ⟨r, ks, ha, hh⟩
          · rw [hh]; rfl
          · rw [hh]; rfl
          · rw [ho] at ha
            simp only [act] at ha
            split at ha
            · simp only [Option.some.injEq, Prod.mk.injEq] at ha
              obtain ⟨rfl, _⟩ := ha
              rcases hh with ⟨B, hB, hh⟩ | ⟨k, W, g, hB, hh⟩
              · cases hB
              · cases hB; rw [hh]; simp [OK.refW, OK.ref, rootIs, hop]
            · cases ha
        case new T z =>
          simp only [beq_iff_eq] at hop
          rcases evalOP_at (by rw [ho]; exact fun hh => nomatch hh) he hd with hh | hh | ⟨r, ks, ha, hh⟩
          · rw [hh]; rfl
          · rw [hh]; rfl
          · rw [ho] at ha
            simp only [act, Option.some.injEq, Prod.mk.injEq] at ha
            obtain ⟨rfl, _⟩ := ha
            rcases hh with ⟨B, hB, hh⟩ | ⟨k, W, g, hB, hh⟩
            · cases hB
            · cases hB; rw [hh]; simp [OK.refW, OK.ref, rootIs, hop]
      · rw [hs p.1 (fun hh => hpt hh.symm)]; exact h.root p hp
    · by_cases hpt : t = t'
      · subst hpt
        have hop : plainO c.op = true := k2.resolve_left (fun hh => by rw [List.contains_iff_mem.2 ht] at hh; cases hh)
        have hw : c.op.cls ≠ .w := by
          intro hh
          cases ho : c.op <;> rw [ho] at hop hh <;> first | (cases hop; done) | (cases hh; done)
        rcases evalOP_at hw he hd with hh | hh | ⟨r, ks, ha, hh⟩
        · rw [hh]; rfl
        · rw [hh]; rfl
        · obtain ⟨A, rfl, hA⟩ := plainO_pure hop ha
          rcases hh with ⟨B, hB, hh⟩ | ⟨k, W, g, hB, _⟩
          · cases hB; rw [hh]; exact hA
          · cases hB
      · rw [hs t' hpt]; exact h.flat t' ht

end
end Go.Bv

/- BY VALUE, part 12c: regions in which stores stand beside reads of other boxes. -/
set_option linter.unusedVariables false
set_option linter.unusedSimpArgs false
namespace Go.Bv

section
variable {R : Nat → List AV → Option AV} {e e1 e2 e' : Env} {ρ : Roots} {ν : List Nat}

/-- A store beside an operation that reads no box of that root. -/
def stBy (ρ : Roots) (a b : OP) : Bool := match a.guard, a.dst, a.op with
  | none, none, .st _ (.t s) _ => b.op.cls == .v && ρ.any (fun p => p.1 == s && Nat.blt p.2 1000000 && (match ldOf b.op with
      | some (.t y) => ρ.any (fun q => q.1 == y && q.2 != p.2)
      | some (.c _) => false
      | none => true))
  | _, _, _ => false
/-- An append beside an operation that asks no row. -/
def appBy (ρ : Roots) (ν : List Nat) (a b : OP) : Bool := match a.op with
  | .app .. => b.guard == none && (match b.op with
      | .fa _ _ (.t s) => ρ.any (fun p => p.1 == s && Nat.blt p.2 1000000 && a.dst != some p.2)
      | .lit _ _ xs => xs.all (fun x => match x with
          | .t s => ν.contains s
          | .c A => A.flat)
      | _ => false)
  | _ => false
def dstC (a b : OP) : Bool :=
  (match a.dst with
  | some d => !b.reads.contains d && b.dst != some d
  | none => true) &&
  (match b.dst with
  | some d => !a.reads.contains d
  | none => true)
def apart2 (ρ : Roots) (ν : List Nat) (a b : OP) : Bool := apartC a b || (dstC a b && (stBy ρ a b || stBy ρ b a || appBy ρ ν a b || appBy ρ ν b a))

theorem dstC_spec {a b : OP} (h : dstC a b = true) : (∀ d, a.dst = some d → d ∉ b.reads ∧ b.dst ≠ some d) ∧ ∀ d, b.dst = some d → d ∉ a.reads := by
  unfold dstC at h
  simp only [Bool.and_eq_true] at h
  obtain ⟨h1, h2⟩ := h
  refine ⟨fun d hd => ?_, fun d hd => ?_⟩
  · rw [hd] at h1
    simp only [Bool.and_eq_true, Bool.not_eq_true', bne_iff_ne, ne_eq] at h1
    exact ⟨fun hh => by have := List.contains_iff_mem.2 hh; rw [this] at h1; exact absurd h1.1 (by decide), h1.2⟩
  · rw [hd] at h2
    simp only [Bool.not_eq_true'] at h2
    exact fun hh => by have := List.contains_iff_mem.2 hh; rw [this] at h2; exact absurd h2 (by decide)

theorem stBy_spec {a b : OP} (h : stBy ρ a b = true) (hA : Asked ρ ν e) : a.guard = none ∧ a.dst = none ∧ b.op.cls = .v ∧ ∃ n s x d, a.op = .st n (.t s) x ∧ d < 1000000 ∧ rootIs d (e.get (.t s)) = true ∧
    ∀ y, ldOf b.op = some y → ∀ g off, e.get y ≠ .ptr d g off := by
  unfold stBy at h
  cases hg : a.guard with
  | some q => simp [hg] at h
  | none =>
    cases hd : a.dst with
    | some q => simp [hg, hd] at h
    | none =>
      cases ho : a.op <;> simp only [hg, hd, ho] at h <;> try (cases h; done)
      rename_i n p x
      cases p with
      | c A => simp at h
      | t s =>
        simp only [Bool.and_eq_true, beq_iff_eq, List.any_eq_true, Nat.blt_eq] at h
        obtain ⟨h1, p, hp, ⟨h2, hsm⟩, h3⟩ := h
        refine ⟨rfl, rfl, h1, n, s, x, p.2, rfl, hsm, ?_, fun y hy => ?_⟩
        · have := hA.root p hp; rw [h2] at this; exact this
        · rw [hy] at h3
          cases y with
          | c A => cases h3
          | t y =>
            simp only [List.any_eq_true, Bool.and_eq_true, beq_iff_eq, bne_iff_ne, ne_eq] at h3
            obtain ⟨q, hq, h4, h5⟩ := h3
            have := hA.root q hq
            rw [h4] at this
            exact fun g off => root_ptr (A := e.get (.t y)) this (h5) g off

theorem appendA_box {e : Env} {dst : Option Nat} {E c by_ : Nat} {s : AV} {x : Option (List (List AV) × List Nat)} (h : appendA e dst E c by_ s x = some e1) {d g : Nat} (hd : dst ≠ some d) (l : List AV) :
    e1.ok? d g = some (.box l) ↔ e.ok? d g = some (.box l) := by
  have fz : ∀ ks, (e.freeze ks).ok? d g = some (.box l) ↔ e.ok? d g = some (.box l) := fun ks => by
    rw [cont_box, cont_box, cont_kind, cont_kind, freeze_len, frzAt_gen (freeze_at ks e d), frzAt_cont (freeze_at ks e d)]
  unfold appendA at h
  cases x with
  | none => cases h
  | some q =>
    obtain ⟨m, ks⟩ := q
    cases s <;> simp only at h <;> try (cases h; done)
    · cases dst with
      | none => cases h
      | some t =>
        have htd : t ≠ d := fun hh => hd (by rw [hh])
        simp only at h
        split at h
        · rename_i hc
          simp only [Option.some.injEq] at h
          subst h
          rw [put_ok?, Env.setObj_ok? _ _ _ _ _ _ (by rw [freeze_len]; exact hc.2.2), if_neg htd]
          exact fz ks
        · cases h
    · rename_i d1 g1
      cases hk : (e.freeze ks).ok? d1 g1 with
      | none => simp [hk] at h
      | some k =>
        cases k <;> simp only [hk] at h <;> try (cases h; done)
        rename_i E' c' f l0
        split at h
        · simp only [Option.some.injEq] at h
          subst h
          rw [put_ok?, Env.setObj_ok? _ _ _ _ _ _ (Env.ok?_eq hk).1]
          by_cases hdd : d1 = d
          · subst hdd
            rw [if_pos rfl]
            constructor
            · intro hh; split at hh <;> cases hh
            · intro hh
              have h2 := (fz ks).2 hh
              have h3 := (Env.ok?_eq h2).2.2
              rw [(Env.ok?_eq hk).2.2] at h3
              cases h3
          · rw [if_neg hdd]; exact fz ks
        · cases h

/-- What stands beside an append gives a value and does nothing else, before it and behind it. -/
theorem appBy_quiet {a b : OP} (h : appBy ρ ν a b = true) (hA : Asked ρ ν e) (hr : ∀ t, a.dst = some t → t ∉ b.reads) (h1 : evalOP R e a = some e1) :
    b.op.cls ≠ .w ∧ (∀ r ks, actOP R e1 b = some (r, ks) → ∃ A, r = .val A ∧ ks = [] ∧ actOP R e b = some (.val A, [])) ∧ ∀ r ks, actOP R e b = some (r, ks) → ∃ A, r = .val A ∧ ks = [] ∧ actOP R e1 b = some (.val A, []) := by
  unfold appBy at h
  cases ho : a.op <;> simp only [ho] at h <;> try (cases h; done)
  rename_i E c by_ s x
  simp only [Bool.and_eq_true, beq_iff_eq] at h
  obtain ⟨hgb, h⟩ := h
  have hact : ∀ y, actOP R y b = act R y b.op := fun y => by unfold actOP; rw [hgb]
  have hget : ∀ z ∈ b.op.reads, e1.tmps.getD z .unk = e.tmps.getD z .unk := fun z hz => evalOP_tmps h1 (fun hh => hr z hh (by unfold OP.reads; exact List.mem_append.2 (.inr hz)))
  simp only [hact]
  cases hb : b.op <;> simp only [hb] at h <;> try (cases h; done)
  case lit E' c' xs =>
    refine ⟨fun hh => (by cases hh), ?_⟩
    simp only [List.all_eq_true] at h
    have hg : ∀ z ∈ xs, e1.get z = e.get z := by
      intro z hz
      cases z with
      | c A => rfl
      | t s =>
        refine hget s ?_
        rw [hb]
        simp only [O.reads]
        clear h hb hget hact
        induction xs with
        | nil => cases hz
        | cons w xs ih =>
          simp only [xtmps, List.mem_append]
          rcases List.mem_cons.1 hz with rfl | hz
          · exact .inl (by simp [X.tmp])
          · exact .inr (ih hz)
    have key : ∀ y y' : Env, (∀ z ∈ xs, (y.get z).flat = true) → (∀ z ∈ xs, y'.get z = y.get z) → ∀ r ks, act R y (.lit E' c' xs) = some (r, ks) → ∃ A, r = .val A ∧ ks = [] ∧ act R y' (.lit E' c' xs) = some (.val A, []) := by
      intro y y' hfl hyy r ks hh
      simp only [act] at hh ⊢
      cases hl : lits y c' xs with
      | none => simp [hl] at hh
      | some q =>
        obtain ⟨m, k⟩ := q
        simp only [hl, Option.some.injEq, Prod.mk.injEq] at hh
        obtain ⟨rfl, rfl⟩ := hh
        obtain ⟨rfl, f⟩ := lits_flat hfl hl
        exact ⟨_, rfl, rfl, by rw [f y' hyy]⟩
    have hfl : (∀ z ∈ xs, match z with | .t _ => True | .c A => A.flat = true) → ∀ z ∈ xs, (e.get z).flat = true := by
      intro hc z hz
      have := h z hz
      cases z with
      | t s => exact hA.flat s (List.contains_iff_mem.1 this)
      | c A => exact hc _ hz
    by_cases hc : ∀ z ∈ xs, match z with | .t _ => True | .c A => A.flat = true
    · exact ⟨fun r ks hh => key e1 e (fun z hz => by rw [hg z hz]; exact hfl hc z hz) (fun z hz => (hg z hz).symm) r ks hh, fun r ks hh => key e e1 (hfl hc) hg r ks hh⟩
    · exfalso
      apply hc
      intro z hz
      cases z with
      | t s => trivial
      | c A =>
        have := h _ hz
        simp only at this
        exact this
  case fa off n p =>
    cases p with
    | c A => simp at h
    | t s1 =>
      refine ⟨fun hh => (by cases hh), ?_⟩
      simp only [List.any_eq_true, Bool.and_eq_true, beq_iff_eq, bne_iff_ne, ne_eq, Nat.blt_eq] at h
      obtain ⟨p, hp, ⟨hps, hsm⟩, hpd⟩ := h
      have hroot := hA.root p hp
      rw [hps] at hroot
      have hg : e1.tmps.getD s1 .unk = e.tmps.getD s1 .unk := hget s1 (by rw [hb]; simp [O.reads, X.tmp])
      have ha : ∃ dst E c by_ s x, appendA e dst E c by_ s x = some e1 ∧ dst ≠ some p.2 ∨ ∃ B, e1 = e.put a.dst B := by
        unfold evalOP at h1
        cases hga : a.guard with
        | none =>
          rw [hga, ho] at h1
          exact ⟨_, _, _, _, _, _, .inl ⟨h1, hpd⟩⟩
        | some q =>
          obtain ⟨t, want⟩ := q
          rw [hga] at h1
          simp only at h1
          cases hbt : e.tmps.getD t .unk <;> simp only [hbt] at h1 <;> try (cases h1; done)
          · exact ⟨none, 0, 0, 0, .unk, none, .inr ⟨_, (Option.some.inj h1).symm⟩⟩
          split at h1
          · rw [ho] at h1
            exact ⟨_, _, _, _, _, _, .inl ⟨h1, hpd⟩⟩
          · exact ⟨none, 0, 0, 0, .unk, none, .inr ⟨_, (Option.some.inj h1).symm⟩⟩
      have hbox : ∀ g l, e1.ok? p.2 g = some (.box l) ↔ e.ok? p.2 g = some (.box l) := by
        intro g l
        obtain ⟨dst, E, c, b', s, x, hh⟩ := ha
        rcases hh with ⟨h2, h3⟩ | ⟨B, rfl⟩
        · exact appendA_box h2 h3 l
        · rw [put_ok?]
      have key : ∀ y y' : Env, rootIs p.2 (y.tmps.getD s1 .unk) = true → y'.tmps.getD s1 .unk = y.tmps.getD s1 .unk → (∀ g l, y'.ok? p.2 g = some (.box l) ↔ y.ok? p.2 g = some (.box l)) →
          ∀ r ks, act R y (.fa off n (.t s1)) = some (r, ks) → ∃ A, r = .val A ∧ ks = [] ∧ act R y' (.fa off n (.t s1)) = some (.val A, []) := by
        intro y y' hro hyy hbx r ks hh
        simp only [act, Env.get, hyy] at hh ⊢
        cases hx : y.tmps.getD s1 .unk <;> simp only [hx] at hh hro ⊢ <;> try (cases hh; done)
        · rename_i d g o
          have hd : d = p.2 := by simpa [rootIs] using hro
          subst hd
          cases hk : y.ok? p.2 g with
          | none => simp [hk] at hh
          | some k =>
            cases k <;> simp only [hk, Option.some.injEq, Prod.mk.injEq] at hh <;> try (cases hh; done)
            obtain ⟨rfl, rfl⟩ := hh
            rw [(hbx g _).2 hk]
            exact ⟨_, rfl, rfl, rfl⟩
        · simp only [rootIs, Nat.ble_eq] at hro; omega
        · simp only [Option.some.injEq, Prod.mk.injEq] at hh
          obtain ⟨rfl, rfl⟩ := hh
          exact ⟨_, rfl, rfl, rfl⟩
      exact ⟨fun r ks hh => key e1 e (by rw [hg]; exact hroot) hg.symm (fun g l => (hbox g l).symm) r ks hh, fun r ks hh => key e e1 hroot hg hbox r ks hh⟩

theorem swap2 {a b : OP} (h : apart2 ρ ν a b = true) (hca : a.op.okc = true) (hcb : b.op.okc = true) (hF : Fit e [a, b]) (hA : Asked ρ ν e) (ka : keepsC ρ ν a = true) (kb : keepsC ρ ν b = true)
    (h1 : evalOP R e a = some e1) (h2 : evalOP R e1 b = some e2) : ∃ e1', evalOP R e b = some e1' ∧ evalOP R e1' a = some e2 := by
  unfold apart2 at h
  rw [Bool.or_eq_true] at h
  rcases h with h | h
  · exact swap (apartC_spec h) hca hcb (fun _ => hF) h1 h2
  simp only [Bool.and_eq_true, Bool.or_eq_true] at h
  obtain ⟨hd, h⟩ := h
  obtain ⟨d1, d2⟩ := dstC_spec hd
  rcases h with ((h | h) | h) | h
  · obtain ⟨q1, q2, q3, n, s, x, d, q4, q0, q5, q6⟩ := stBy_spec h hA
    exact swap_st_v q1 q2 q4 q3 hcb hca d2 q0 q5 q6 hF h1 h2
  · obtain ⟨q1, q2, q3, n, s, x, d, q4, q0, q5, q6⟩ := stBy_spec h hA
    exact swap_v_st q1 q2 q4 q3 hcb (fun t ht => (d1 t ht).1) q0 q5 q6 hF h1 h2
  · obtain ⟨q1, q2, q3⟩ := appBy_quiet h hA (fun t ht => (d1 t ht).1) h1
    have h2' := h2
    rw [evalOP_act q1] at h2'
    cases hb : actOP R e1 b with
    | none => simp [hb] at h2'
    | some r =>
      obtain ⟨r, ks⟩ := r
      obtain ⟨A, rfl, rfl, q4⟩ := q2 r ks hb
      exact swap_quiet_r hca q1 d2 (fun t ht hh => (d1 t hh).2 ht) h1 h2 hb q4
  · have hwa : a.op.cls ≠ .w := by
      intro hw
      unfold appBy at h
      cases hbo : b.op <;> simp only [hbo] at h <;> try (cases h; done)
      simp only [Bool.and_eq_true] at h
      cases hao : a.op <;> simp only [hao] at h hw <;> first | (cases hw; done) | exact absurd h.2 (by decide)
    have h1' := h1
    rw [evalOP_act hwa] at h1'
    cases hq : actOP R e a with
    | none => simp [hq] at h1'
    | some r =>
      obtain ⟨r, ks⟩ := r
      -- what it gives is quiet: beside an append from here
      by_cases hev : ∃ y, evalOP R e b = some y
      · obtain ⟨y, hy⟩ := hev
        obtain ⟨q1, q2, q3⟩ := appBy_quiet h hA d2 hy
        obtain ⟨A, rfl, rfl, q4⟩ := q3 r ks hq
        refine swap_quiet_l hcb hwa (fun t ht => (d1 t ht).1) (fun t ht => (d1 t ht).2) h1 h2 hq (fun e1' he => ?_)
        rw [hy] at he; cases he; exact q4
      · exfalso
        -- the append goes through from here, too: 'a' is quiet there by its own kind
        have hA1 := asked_step hA ka h1
        have hquiet : ∃ A, r = .val A ∧ ks = [] := by
          unfold appBy at h
          cases hbo : b.op <;> simp only [hbo] at h <;> try (cases h; done)
          simp only [Bool.and_eq_true, beq_iff_eq] at h
          obtain ⟨hga, h⟩ := h
          have hact : actOP R e a = act R e a.op := by unfold actOP; rw [hga]
          rw [hact] at hq
          cases hao : a.op <;> simp only [hao] at h <;> try (cases h; done)
          · rename_i E' c' xs
            rw [hao] at hq
            simp only [act] at hq
            cases hl : lits e c' xs with
            | none => simp [hl] at hq
            | some q =>
              obtain ⟨m, k⟩ := q
              simp only [hl, Option.some.injEq, Prod.mk.injEq] at hq
              obtain ⟨rfl, rfl⟩ := hq
              simp only [List.all_eq_true] at h
              have hfl : ∀ z ∈ xs, (e.get z).flat = true := by
                intro z hz
                have := h z hz
                cases z with
                | t s => exact hA.flat s (List.contains_iff_mem.1 this)
                | c B => exact this
              exact ⟨_, rfl, (lits_flat hfl hl).1⟩
          · rename_i off n p
            rw [hao] at hq
            cases p with
            | c B => simp at h
            | t s1 =>
              simp only [act] at hq
              (repeat' split at hq) <;> first | (cases hq; done) | (simp only [Option.some.injEq, Prod.mk.injEq] at hq; exact ⟨_, hq.1.symm, hq.2.symm⟩)
        obtain ⟨A, rfl, rfl⟩ := hquiet
        simp only [hq, applyRes, Option.some.injEq] at h1'
        have hfz : e.freeze [] = e := rfl
        rw [hfz] at h1'
        subst h1'
        rw [put_evalOP hcb (fun t ht => (d1 t ht).1) (fun t ht => (d1 t ht).2)] at h2
        cases hb : evalOP R e b with
        | none => rw [hb] at h2; cases h2
        | some y => exact hev ⟨y, hb⟩

end
end Go.Bv

/- BY VALUE, part 12d: an operation that may come first may be taken first, stores and appends among them. -/
set_option linter.unusedVariables false
set_option linter.unusedSimpArgs false
namespace Go.Bv

section
variable {R : Nat → List AV → Option AV} {e e1 e2 e' : Env} {ρ : Roots} {ν : List Nat}

theorem bdd_setRow {d g E c f : Nat} {l : List (List AV)} (hd : d < e.objs.length) (hg : e.gen d ≤ g) (hb : Bdd e.q e) (hb1 : e.box1) : Bdd (e.setObj d g (.row E c f l)).q (e.setObj d g (.row E c f l)) ∧ (e.setObj d g (.row E c f l)).box1 := by
  have hq : ∀ d' g', e.q d' g' → (e.setObj d g (.row E c f l)).q d' g' := fun d' g' hh => by
    have hh' : g' ≤ e.gen d' := hh
    show g' ≤ (e.setObj d g (.row E c f l)).gen d'
    rw [Env.setObj_gen _ _ _ _ _ hd]
    split
    · rename_i h; subst h; omega
    · exact hh'
  have hbox : ∀ d' g' l', (e.setObj d g (.row E c f l)).ok? d' g' = some (.box l') → e.ok? d' g' = some (.box l') := by
    intro d' g' l' hk
    rw [Env.setObj_ok? _ _ _ _ _ _ hd] at hk
    split at hk
    · split at hk <;> cases hk
    · exact hk
  exact ⟨⟨fun t => bddA_mono hq (hb.tmps t), fun d' g' l' hk A hA => bdd1_mono hq (hb.box d' g' l' (hbox d' g' l' hk) A hA)⟩, fun d' g' l' hk A hA => hb1 d' g' l' (hbox d' g' l' hk) A hA⟩

theorem bdd_freeze (ks : List Nat) (hb : Bdd e.q e) (hb1 : e.box1) : Bdd (e.freeze ks).q (e.freeze ks) ∧ (e.freeze ks).box1 := by
  have hq : ∀ d' g', e.q d' g' → (e.freeze ks).q d' g' := fun d' g' hh => by
    show g' ≤ (e.freeze ks).gen d'
    rw [freeze_gen]; exact hh
  have hbox : ∀ d' g' l', (e.freeze ks).ok? d' g' = some (.box l') → e.ok? d' g' = some (.box l') := by
    intro d' g' l' hk
    rw [cont_box, cont_kind, freeze_len, frzAt_gen (freeze_at ks e d'), frzAt_cont (freeze_at ks e d'), ← cont_kind, ← cont_box] at hk
    exact hk
  exact ⟨⟨fun t => bddA_mono hq (hb.tmps t), fun d' g' l' hk A hA => bdd1_mono hq (hb.box d' g' l' (hbox d' g' l' hk) A hA)⟩, fun d' g' l' hk A hA => hb1 d' g' l' (hbox d' g' l' hk) A hA⟩

theorem bdd_put (dst : Option Nat) {A : AV} (hA : bddA e.q A) (hb : Bdd e.q e) (hb1 : e.box1) : Bdd (e.put dst A).q (e.put dst A) ∧ (e.put dst A).box1 := by
  have hq : ∀ d' g', e.q d' g' → (e.put dst A).q d' g' := fun d' g' hh => by
    show g' ≤ (e.put dst A).gen d'
    rw [put_gen]; exact hh
  refine ⟨⟨fun t => ?_, fun d' g' l' hk B hB => bdd1_mono hq (hb.box d' g' l' (by rw [put_ok?] at hk; exact hk) B hB)⟩, fun d' g' l' hk B hB => hb1 d' g' l' (by rw [put_ok?] at hk; exact hk) B hB⟩
  by_cases ht : dst = some t
  · rcases put_at (e := e) (A := A) ht with hh | hh
    · rw [hh]; exact bddA_mono hq hA
    · rw [hh]; trivial
  · rw [put_get ht]; exact bddA_mono hq (hb.tmps t)

theorem append_bdd {dst : Option Nat} {E c by_ : Nat} {s : AV} {x : Option (List (List AV) × List Nat)} (h : appendA e dst E c by_ s x = some e1) (hb : Bdd e.q e) (hb1 : e.box1) : Bdd e1.q e1 ∧ e1.box1 := by
  unfold appendA at h
  cases x with
  | none => cases h
  | some q =>
    obtain ⟨m, ks⟩ := q
    obtain ⟨f1, f2⟩ := bdd_freeze ks hb hb1
    cases s <;> simp only at h <;> try (cases h; done)
    · cases dst with
      | none => cases h
      | some t =>
        simp only at h
        split at h
        · rename_i hc
          simp only [Option.some.injEq] at h
          subst h
          have hlt : t < (e.freeze ks).objs.length := by rw [freeze_len]; exact hc.2.2
          obtain ⟨g1, g2⟩ := bdd_setRow (E := E) (c := c) (f := 0) (l := m) hlt (g := e.gen t + 1) (by rw [freeze_gen]; omega) f1 f2
          refine bdd_put _ ?_ g1 g2
          show e.gen t + 1 ≤ _
          rw [Env.setObj_gen _ _ _ _ _ hlt, if_pos rfl]
          exact Nat.le_refl _
        · cases h
    · rename_i d1 g1
      cases hk : (e.freeze ks).ok? d1 g1 with
      | none => simp [hk] at h
      | some k =>
        cases k <;> simp only [hk] at h <;> try (cases h; done)
        split at h
        · simp only [Option.some.injEq] at h
          subst h
          obtain ⟨hlt, hg, _⟩ := Env.ok?_eq hk
          obtain ⟨q1, q2⟩ := bdd_setRow (E := E) (c := c) (f := (by assumption)) (l := _ ++ m) hlt (g := g1 + 1) (by omega) f1 f2
          refine bdd_put _ ?_ q1 q2
          show g1 + 1 ≤ _
          rw [Env.setObj_gen _ _ _ _ _ hlt, if_pos rfl]
          exact Nat.le_refl _
        · cases h

theorem store_bdd {n : Nat} {p x : AV} (h : storeA e n p x = some e1) (hb : Bdd e.q e) (hb1 : e.box1) (hx : bddA e.q x) : Bdd e1.q e1 ∧ e1.box1 := by
  cases p <;> try (simp only [storeA] at h; cases h; done)
  · rename_i d g off
    obtain ⟨l, k1, k2, k3, k4, rfl⟩ := store_ptr h
    obtain ⟨hlt, hg, hkd⟩ := Env.ok?_eq k1
    have hq : ∀ d' g', e.q d' g' → (e.setObj d g (.box (splice l off (partsA x)))).q d' g' := fun d' g' hh => by
      have hh' : g' ≤ e.gen d' := hh
      show g' ≤ (e.setObj d g (.box (splice l off (partsA x)))).gen d'
      rw [Env.setObj_gen _ _ _ _ _ hlt]
      split
      · rename_i h; subst h; omega
      · exact hh'
    have hbox : ∀ d' g' l', (e.setObj d g (.box (splice l off (partsA x)))).ok? d' g' = some (.box l') → ∀ A ∈ l', bdd1 e.q A ∧ A.cell1 = true := by
      intro d' g' l' hk A hA
      rw [Env.setObj_ok? _ _ _ _ _ _ hlt] at hk
      by_cases hdd : d = d'
      · rw [if_pos hdd] at hk
        split at hk
        · simp only [Option.some.injEq, OK.box.injEq] at hk
          subst hk
          rcases splice_mem hA with hm | hm
          · exact ⟨hb.box d g l k1 A hm, hb1 d g l k1 A hm⟩
          · refine ⟨parts_bdd hx A hm, ?_⟩
            have := List.all_eq_true.1 k4 A hm
            cases A <;> first | rfl | (simp [Env.cellOk, AV.pure] at this)
        · cases hk
      · rw [if_neg hdd] at hk
        exact ⟨hb.box d' g' l' hk A hA, hb1 d' g' l' hk A hA⟩
    exact ⟨⟨fun t => bddA_mono hq (hb.tmps t), fun d' g' l' hk A hA => bdd1_mono hq (hbox d' g' l' hk A hA).1⟩, fun d' g' l' hk A hA => (hbox d' g' l' hk A hA).2⟩
  · rename_i d g i j
    simp only [storeA] at h
    cases hc : e.cells x with
    | none => simp [hc] at h
    | some q =>
      obtain ⟨m, ks⟩ := q
      obtain ⟨f1, f2⟩ := bdd_freeze ks hb hb1
      simp only [hc] at h
      cases hk : (e.freeze ks).ok? d g with
      | none => simp [hk] at h
      | some k =>
        cases k <;> simp only [hk] at h <;> try (cases h; done)
        split at h
        · simp only [Option.some.injEq] at h
          subst h
          obtain ⟨hlt, hg, _⟩ := Env.ok?_eq hk
          exact bdd_setRow hlt (by omega) f1 f2
        · cases h

theorem evalOP_bdd {c : OP} (hc : c.op.okc = true) (h : evalOP R e c = some e1) (hb : Bdd e.q e) (hb1 : e.box1) : Bdd e1.q e1 ∧ e1.box1 := by
  by_cases hw : c.op.cls = .w
  · have hO : ∀ {e1 : Env}, evalO R e c.dst c.op = some e1 → Bdd e1.q e1 ∧ e1.box1 := by
      intro e1 h
      cases ho : c.op <;> rw [ho] at h hc hw <;> try (cases hw; done)
      · simp only [O.okc, Bool.and_eq_true] at hc
        exact store_bdd h hb hb1 (get_bdd hb hc.2)
      · exact append_bdd h hb hb1
      · exact append_bdd h hb hb1
    unfold evalOP at h
    cases hg : c.guard with
    | none => rw [hg] at h; exact hO h
    | some q =>
      obtain ⟨t, want⟩ := q
      rw [hg] at h
      simp only at h
      cases hbt : e.tmps.getD t .unk <;> simp only [hbt] at h <;> try (cases h; done)
      · cases h; exact bdd_put _ trivial hb hb1
      split at h
      · exact hO h
      · cases h; exact bdd_put _ trivial hb hb1
  · rw [evalOP_act hw] at h
    cases hA : actOP R e c with
    | none => simp [hA] at h
    | some qa =>
      obtain ⟨ra, ka⟩ := qa
      simp only [hA] at h
      exact spec_bdd (spec_of h) hb hb1 (actOP_ok hb hb1 hc hA).2

theorem Fit.step2 {a : OP} {cs : List OP} (hF : Fit e (a :: cs)) (hca : a.op.okc = true) (hdst : ∀ c ∈ cs, okDst a c) (h : evalOP R e a = some e1) : Fit e1 cs := by
  obtain ⟨i1, i2⟩ := evalOP_bdd hca h hF.bdd hF.box1
  exact ⟨i1, i2, fun c hc hm d hd => evalOP_dead h (fun hh => hdst c hc (.inr hm) d hh hd) (hF.dead c (by simp [hc]) hm d hd)⟩

theorem bubble2 : ∀ (l1 : List OP) (o : OP) (l2 : List OP) (e : Env), (∀ p ∈ l1, apart2 ρ ν p o = true) → (∀ p ∈ o :: l1, p.op.okc = true) → (∀ p ∈ o :: l1, keepsC ρ ν p = true) → l1.Pairwise okDst → (∀ p ∈ l1, okDst p o) → Fit e (o :: l1) → Asked ρ ν e →
    evalOps R (l1 ++ o :: l2) e = some e' → ∃ e1, evalOP R e o = some e1 ∧ evalOps R (l1 ++ l2) e1 = some e'
  | [], o, l2, e, _, _, _, _, _, _, _, h => by
    simp only [List.nil_append, evalOps] at h ⊢
    cases ho : evalOP R e o with
    | none => simp [ho] at h
    | some e1 => simp only [ho] at h; exact ⟨e1, rfl, h⟩
  | p :: l1, o, l2, e, hap, hok, hkp, hpw, hpo, hF, hA, h => by
    simp only [List.cons_append, evalOps] at h
    cases hp : evalOP R e p with
    | none => simp [hp] at h
    | some e1 =>
      simp only [hp] at h
      have mem' : ∀ {q : OP}, q ∈ o :: l1 → q ∈ o :: p :: l1 := fun hq => by
        simp only [List.mem_cons] at hq ⊢
        rcases hq with rfl | hq
        · exact .inl rfl
        · exact .inr (.inr hq)
      have hF' : Fit e (p :: o :: l1) := ⟨hF.bdd, hF.box1, fun c hc => hF.dead c (by
        simp only [List.mem_cons] at hc ⊢
        rcases hc with rfl | rfl | hc
        · exact .inr (.inl rfl)
        · exact .inl rfl
        · exact .inr (.inr hc))⟩
      have hF1 : Fit e1 (o :: l1) := hF'.step2 (hok p (by simp)) (fun c hc => by
        rcases List.mem_cons.1 hc with rfl | hc
        · exact hpo p (by simp)
        · exact (List.pairwise_cons.1 hpw).1 c hc) hp
      have hA1 := asked_step hA (hkp p (by simp)) hp
      obtain ⟨e2, h1, h2⟩ := bubble2 l1 o l2 e1 (fun q hq => hap q (by simp [hq])) (fun q hq => hok q (mem' hq)) (fun q hq => hkp q (mem' hq)) (List.pairwise_cons.1 hpw).2 (fun q hq => hpo q (by simp [hq])) hF1 hA1 h
      obtain ⟨e1', h3, h4⟩ := swap2 (hap p (by simp)) (hok p (by simp)) (hok o (by simp)) ⟨hF.bdd, hF.box1, fun c hc => hF.dead c (by
          simp only [List.mem_cons, List.not_mem_nil, or_false] at hc ⊢
          rcases hc with rfl | rfl
          · exact .inr (.inl rfl)
          · exact .inl rfl)⟩ hA (hkp p (by simp)) (hkp o (by simp)) hp h1
      refine ⟨e1', h3, ?_⟩
      simp only [List.cons_append, evalOps, h4]
      exact h2

end
end Go.Bv

/- BY VALUE, part 12: regions whose order is drawn. -/
set_option linter.unusedVariables false
set_option linter.unusedSimpArgs false
namespace Go.Bv
open Go.RowKit

/-- Which must come before which: told number by number. -/
def edgesOf (o : Oper) : List Nat := (o.after.toList.filter fun e => Region.binds .any e).map (·.on)
def ancs (ops : List Oper) : List (List Nat) :=
  ops.foldl (fun acc o => acc ++ [(edgesOf o).foldl (fun s k => (k :: acc.getD k []).foldl (fun s x => if s.contains x then s else x :: s) s) []]) []

def okDstC (a b : OP) : Bool := !(a.op.makes || b.op.makes) || (match a.dst with | some d => b.dst != some d | none => true)

def regOk2 (ρ : Roots) (ν : List Nat) (ops : List Oper) (cs : List OP) (ks : List Nat) : Bool :=
  let A := ancs ops
  cs.all (keepsC ρ ν) &&
  (List.range cs.length).all (fun j => match ops[j]?, cs[j]? with
    | some o, some c =>
      (edgesOf o).all (fun k => Nat.blt k j) &&
      (A.getD j []).all (fun i => (edgesOf o).any (fun k => k == i || (A.getD k []).contains i)) &&
      c.op.okc && (!c.op.makes || (match c.dst with | some d => ks.contains d | none => true)) &&
      (List.range j).all (fun i => match cs[i]? with
        | some b => ((A.getD j []).contains i || apart2 ρ ν b c) && okDstC b c
        | none => false)
    | _, _ => false)

def regOk (ops : List Oper) (cs : List OP) (ks : List Nat) : Bool := regOk2 [] [] ops cs ks

structure RegOk (ρ : Roots) (ν : List Nat) (ops : List Oper) (cs : List OP) (ks : List Nat) (A : Nat → List Nat) : Prop where
  keeps : ∀ c ∈ cs, keepsC ρ ν c = true
  len : cs.length ≤ ops.length
  edge : ∀ (j : Nat) (o : Oper), j < cs.length → ops[j]? = some o → ∀ k ∈ edgesOf o, k < j
  anc : ∀ (j : Nat) (o : Oper), j < cs.length → ops[j]? = some o → ∀ i ∈ A j, ∃ k ∈ edgesOf o, k = i ∨ i ∈ A k
  okc : ∀ c ∈ cs, c.op.okc = true
  kill : ∀ c ∈ cs, c.op.makes = true → ∀ d, c.dst = some d → d ∈ ks
  apart : ∀ (i j : Nat) (a b : OP), i < j → cs[i]? = some a → cs[j]? = some b → i ∈ A j ∨ apart2 ρ ν a b = true
  dst : ∀ (i j : Nat) (a b : OP), i < j → cs[i]? = some a → cs[j]? = some b → okDst a b

theorem regOk_spec {ρ : Roots} {ν : List Nat} {ops : List Oper} {cs : List OP} {ks : List Nat} (h0 : regOk2 ρ ν ops cs ks = true) : RegOk ρ ν ops cs ks (fun j => (ancs ops).getD j []) := by
  unfold regOk2 at h0
  simp only [Bool.and_eq_true] at h0
  obtain ⟨hkeep, h⟩ := h0
  simp only [List.all_eq_true, List.mem_range] at h hkeep
  have hj : ∀ j, j < cs.length → ∃ o c, ops[j]? = some o ∧ cs[j]? = some c ∧ (∀ k ∈ edgesOf o, k < j) ∧ (∀ i ∈ (ancs ops).getD j [], ∃ k ∈ edgesOf o, k = i ∨ i ∈ (ancs ops).getD k []) ∧ c.op.okc = true ∧
      (c.op.makes = true → ∀ d, c.dst = some d → d ∈ ks) ∧ ∀ i, i < j → ∃ b, cs[i]? = some b ∧ (i ∈ (ancs ops).getD j [] ∨ apart2 ρ ν b c = true) ∧ okDst b c := by
    intro j hj
    have := h j hj
    cases ho : ops[j]? with
    | none => simp [ho] at this
    | some o =>
      cases hc : cs[j]? with
      | none => simp [ho, hc] at this
      | some c =>
        simp only [ho, hc, Bool.and_eq_true, List.all_eq_true, List.mem_range] at this
        obtain ⟨⟨⟨⟨h1, h2⟩, h3⟩, h4⟩, h5⟩ := this
        refine ⟨o, c, rfl, rfl, fun k hk => ?_, fun i hi => ?_, h3, fun hm d hd => ?_, fun i hi => ?_⟩
        · have := h1 k hk; simpa [Nat.blt_eq] using this
        · have := h2 i hi
          obtain ⟨k, hk, hki⟩ := List.any_eq_true.1 this
          simp only [Bool.or_eq_true, beq_iff_eq, List.contains_iff_mem] at hki
          exact ⟨k, hk, hki⟩
        · simp only [hm, hd, Bool.not_true, Bool.false_or, List.contains_iff_mem] at h4
          exact h4
        · have := h5 i hi
          cases hb : cs[i]? with
          | none => simp [hb] at this
          | some b =>
            simp only [hb, Bool.and_eq_true, Bool.or_eq_true, List.contains_iff_mem] at this
            refine ⟨b, rfl, this.1, fun hm d hd => ?_⟩
            have h6 := this.2
            unfold okDstC at h6
            rw [hd] at h6
            have : (b.op.makes || c.op.makes) = true := by simpa using hm
            simp only [this, Bool.not_true, Bool.false_or, bne_iff_ne, ne_eq] at h6
            exact h6
  have hmem : ∀ c ∈ cs, ∃ j, j < cs.length ∧ cs[j]? = some c := fun c hc => by
    obtain ⟨j, hlt, hh⟩ := List.getElem_of_mem hc
    exact ⟨j, hlt, by rw [List.getElem?_eq_getElem hlt, hh]⟩
  refine ⟨hkeep, ?_, ?_, ?_, ?_, ?_, ?_, ?_⟩
  · rcases Nat.lt_or_ge ops.length cs.length with hlt | hge
    · obtain ⟨o, c, h1, _⟩ := hj ops.length hlt
      simp at h1
    · exact hge
  · intro j o hlt ho k hk
    obtain ⟨o', c, h1, h2, h3, _⟩ := hj j hlt
    rw [ho] at h1; cases h1
    exact h3 k hk
  · intro j o hlt ho i hi
    obtain ⟨o', c, h1, h2, h3, h4, _⟩ := hj j hlt
    rw [ho] at h1; cases h1
    exact h4 i hi
  · intro c hc
    obtain ⟨j, hlt, hcj⟩ := hmem c hc
    obtain ⟨o', c', h1, h2, h3, h4, h5, _⟩ := hj j hlt
    rw [hcj] at h2; cases h2
    exact h5
  · intro c hc
    obtain ⟨j, hlt, hcj⟩ := hmem c hc
    obtain ⟨o', c', h1, h2, h3, h4, h5, h6, _⟩ := hj j hlt
    rw [hcj] at h2; cases h2
    exact h6
  · intro i j a b hij ha hb
    obtain ⟨o', c', h1, h2, h3, h4, h5, h6, h7⟩ := hj j (List.getElem?_eq_some_iff.1 hb).1
    rw [hb] at h2; cases h2
    obtain ⟨b', h8, h9, h10⟩ := h7 i hij
    rw [ha] at h8; cases h8
    exact h9
  · intro i j a b hij ha hb
    obtain ⟨o', c', h1, h2, h3, h4, h5, h6, h7⟩ := hj j (List.getElem?_eq_some_iff.1 hb).1
    rw [hb] at h2; cases h2
    obtain ⟨b', h8, h9, h10⟩ := h7 i hij
    rw [ha] at h8; cases h8
    exact h10

section
variable {P : Program} {base : Nat} {w0 : World} {ok0 : Nat → Nat → Prop} {e : Env} {a : Act} {w : World} {G : Gh}
variable {R : Nat → List AV → Option AV} {Q : Exit → Act → World → Prop} {e' : Env} {ops : Array Oper}

theorem RepR.bdd {q : Nat → Nat → Prop} {ok : Nat → Nat → Prop} {v : Value} {A : AV} (h : RepR w ok v A) : bddA q A := by
  cases h <;> try trivial
  rename_i vs l hs hp hr
  intro B hB
  obtain ⟨j, hj, rfl⟩ := List.getElem_of_mem hB
  have := hp j hj
  rw [List.getD_eq_getElem?_getD, List.getElem?_eq_getElem hj] at this
  exact pure_bdd1 this

theorem RepT.bdd {v : Value} {A : AV} (h : RepT w G e v A) : bddA e.q A := by
  cases A
  case own => exact h.2.1
  case ptr => exact h.2.1
  case rp => exact h.2.1
  case aggo j d g l =>
    obtain ⟨_, h1, vs, _, _, _, _, h2, _⟩ := h
    exact ⟨h1, fun A hA => pure_bdd1 (h2 A hA)⟩
  all_goals exact RepR.bdd h

theorem bddA_cell {q : Nat → Nat → Prop} {A : AV} (h : bddA q A) (hc : A.cell1 = true) : bdd1 q A := by
  cases A <;> first | trivial | exact h | (simp [AV.cell1] at hc)

theorem Rel.fit (h : Rel base w0 ok0 e a w G) {cs : List OP} (hd : ∀ c ∈ cs, Dead e c) : Fit e cs := by
  have hbox : ∀ d g l, e.ok? d g = some (.box l) → ∀ A ∈ l, bdd1 e.q A ∧ A.cell1 = true := by
    intro d g l hk A hA
    obtain ⟨hlt, hg, hkd⟩ := Env.ok?_eq hk
    have := h.objs d hlt
    rw [hkd] at this
    obtain ⟨b, vs, T, h1, h2, h3, h4, h5, h6⟩ := this
    obtain ⟨j, hj, rfl⟩ := List.getElem_of_mem hA
    have hh := h5 j hj
    rw [List.getD_eq_getElem?_getD, List.getElem?_eq_getElem hj] at hh
    simp only [Option.getD_some] at hh
    exact ⟨bddA_cell hh.1.bdd hh.2, hh.2⟩
  refine ⟨⟨fun t => ?_, fun d g l hk A hA => (hbox d g l hk A hA).1⟩, fun d g l hk A hA => (hbox d g l hk A hA).2, hd⟩
  rcases Nat.lt_or_ge t e.tmps.length with ht | ht
  · exact (h.tmps t ht).bdd
  · rw [List.getD_eq_getElem?_getD, List.getElem?_eq_none ht]; trivial

theorem kill1_kind (e : Env) (d d' : Nat) : (e.kill1 d).kind d' = if d = d' then .dead else e.kind d' := by
  unfold Env.kill1 Env.kind
  rw [List.getElem?_modify]
  by_cases h : d = d'
  · subst h
    simp only [if_true]
    cases e.objs[d]? with
    | none => rfl
    | some o => rfl
  · simp only [if_neg h]
    cases e.objs[d']? <;> rfl

theorem kill_dead' : ∀ (ks : List Nat) (e : Env) (d : Nat), e.kind d = .dead → (e.kill ks).kind d = .dead
  | [], e, d, h => h
  | k :: ks, e, d, h => by
    rw [Env.kill_cons]
    refine kill_dead' ks _ d ?_
    rw [kill1_kind]; split
    · rfl
    · exact h
theorem kill_dead : ∀ (ks : List Nat) (e : Env) (d : Nat), d ∈ ks → (e.kill ks).kind d = .dead
  | k :: ks, e, d, h => by
    rw [Env.kill_cons]
    rcases List.mem_cons.1 h with rfl | h
    · exact kill_dead' ks _ d (by rw [kill1_kind, if_pos rfl])
    · exact kill_dead ks _ d h

/-- Every order of a region that is well. -/
theorem simAny (hR : VSound P R) {ρ : Roots} {ν : List Nat} {cs : List OP} {ks : List Nat} {A : Nat → List Nat} (hcs : compOPs P ops ops.toList = some cs) (hok : RegOk ρ ν ops.toList cs ks A) (hQ : ∀ a' w' G', Rel base w0 ok0 e' a' w' G' → Q .normal a' w') :
    ∀ (n : Nat) (rem : List Nat) (listed : Array Bool) (e : Env) (a : Act) (w : World) (G : Gh), rem.length = n → rem.Pairwise (· < ·) → (∀ i ∈ rem, i < ops.size) → listed.size = ops.size →
      (∀ i, i < ops.size → (listed.getD i true = false ↔ i ∈ rem)) → (∀ j, j < ops.size → listed.getD j true = true → ∀ i ∈ A j, listed.getD i true = true) →
      (∀ i ∈ rem, ∀ c, cs[i]? = some c → Dead e c) → Asked ρ ν e → Rel base w0 ok0 e a w G → evalOps R (rem.map (fun i => cs.getD i default)) e = some e' →
      wpAny P .any ops Q n listed a w := by
  obtain ⟨hl, hsp⟩ := compOPs_spec hcs
  have hl' : cs.length = ops.size := by rw [hl]; simp
  have hget : ∀ i, i < ops.size → ∃ o c, ops[i]? = some o ∧ cs[i]? = some c ∧ cs.getD i default = c ∧ compOP P ops o = some c := fun i hi => by
    obtain ⟨o, c, h1, h2, h3⟩ := hsp i (by simpa using hi)
    exact ⟨o, c, by rw [← Array.getElem?_toList]; exact h1, h2, by rw [List.getD_eq_getElem?_getD, h2]; rfl, h3⟩
  intro n
  induction n with
  | zero =>
    intro rem listed e a w G hn hpw hlt hls hinv hanc hdead hask h he
    have hnil : rem = [] := List.length_eq_zero_iff.1 hn
    subst hnil
    simp only [List.map_nil, evalOps, Option.some.injEq] at he
    subst he
    refine ⟨?_, hQ _ _ _ h⟩
    unfold Region.ready
    rw [List.filter_eq_nil_iff]
    intro i hi
    have : listed.getD i true = true := by
      cases hh : listed.getD i true with
      | true => rfl
      | false => exact absurd ((hinv i (List.mem_range.1 hi)).1 hh) (by simp)
    simp [this]
  | succ n ih =>
    intro rem listed e a w G hn hpw hlt hls hinv hanc hdead hask h he
    have ready_iff : ∀ i, i ∈ Region.ready .any ops listed ↔ i < ops.size ∧ listed.getD i true = false ∧ ∃ o, ops[i]? = some o ∧ ∀ k ∈ edgesOf o, listed.getD k false = true := by
      intro i
      unfold Region.ready
      rw [List.mem_filter, List.mem_range]
      refine and_congr_right fun hi => ?_
      obtain ⟨o, c, h1, _⟩ := hget i hi
      rw [h1]
      simp only [Option.map_some, Option.getD_some, Bool.and_eq_true, Bool.not_eq_true', Option.some.injEq, exists_eq_left']
      refine and_congr_right fun _ => ?_
      rw [← Array.all_toList, List.all_eq_true]
      unfold edgesOf
      simp only [List.mem_map, List.mem_filter, Bool.or_eq_true, Bool.not_eq_true', forall_exists_index, and_imp]
      constructor
      · intro hh k x hx hb hk
        subst hk
        rcases hh x hx with h2 | h2
        · rw [hb] at h2; cases h2
        · exact h2
      · intro hh x hx
        cases hb : Region.binds .any x with
        | false => exact .inl rfl
        | true => exact .inr (hh x.on x hx hb rfl)
    have getTF : ∀ k, k < ops.size → listed.getD k false = listed.getD k true := fun k hk => by
      rw [Array.getD_eq_getD_getElem?, Array.getD_eq_getD_getElem?, Array.getElem?_eq_getElem (by rw [hls]; exact hk)]; rfl
    refine ⟨fun hnil => ?_, fun i hi => ?_⟩
    · exfalso
      cases rem with
      | nil => simp at hn
      | cons j rem =>
        have hj := hlt j (by simp)
        obtain ⟨o, c, h1, h2, _⟩ := hget j hj
        have : j ∈ Region.ready .any ops listed := by
          rw [ready_iff]
          refine ⟨hj, (hinv j hj).2 (by simp), o, h1, fun k hk => ?_⟩
          have hkj := hok.edge j o (by rw [hl']; exact hj) (by rw [Array.getElem?_toList]; exact h1) k hk
          have hko : k < ops.size := by omega
          rw [getTF k hko]
          cases hh : listed.getD k true with
          | true => rfl
          | false =>
            have := (hinv k hko).1 hh
            rcases List.mem_cons.1 this with rfl | hm
            · omega
            · have := (List.pairwise_cons.1 hpw).1 k hm; omega
        rw [hnil] at this; cases this
    · obtain ⟨hio, hil, o, ho, hed⟩ := (ready_iff i).1 hi
      have hirem := (hinv i hio).1 hil
      obtain ⟨o', c, h1, h2, h2', h3⟩ := hget i hio
      rw [ho] at h1; cases h1
      -- the ancestors of what is ready are listed
      have hancl : ∀ k ∈ A i, listed.getD k true = true := by
        intro k hk
        obtain ⟨m, hm, hmk⟩ := hok.anc i o (by rw [hl']; exact hio) (by rw [Array.getElem?_toList]; exact ho) k hk
        have hmi := hok.edge i o (by rw [hl']; exact hio) (by rw [Array.getElem?_toList]; exact ho) m hm
        have hml : listed.getD m true = true := by rw [← getTF m (by omega)]; exact hed m hm
        rcases hmk with rfl | hmk
        · exact hml
        · exact hanc m (by omega) hml k hmk
      obtain ⟨r1, r2, hrem⟩ := List.append_of_mem hirem
      have hpw' := hpw
      rw [hrem, List.pairwise_append] at hpw'
      obtain ⟨p1, p2, p3⟩ := hpw'
      have hr1 : ∀ p ∈ r1, p < i := fun p hp => p3 p hp i (by simp)
      have memr : ∀ p ∈ r1, p ∈ rem := fun p hp => by rw [hrem]; simp [hp]
      have memr2 : ∀ p ∈ r2, p ∈ rem := fun p hp => by rw [hrem]; simp [hp]
      have memcs : ∀ j, j < ops.size → cs.getD j default ∈ cs := fun j hj => by
        obtain ⟨_, c', _, q2, q3, _⟩ := hget j hj
        rw [q3]; exact List.mem_of_getElem? q2
      rw [hrem, List.map_append, List.map_cons, h2'] at he
      obtain ⟨e1, he1, he2⟩ := bubble2 (ρ := ρ) (ν := ν) (r1.map (fun i => cs.getD i default)) c (r2.map (fun i => cs.getD i default)) e
        (fun p hp => by
          obtain ⟨j, hj, rfl⟩ := List.mem_map.1 hp
          have hjo := hlt j (memr j hj)
          obtain ⟨_, c', _, q2, q3, _⟩ := hget j hjo
          rw [q3]
          rcases hok.apart j i c' c (hr1 j hj) q2 h2 with hh | hh
          · have := hancl j hh
            have h5 := (hinv j hjo).2 (memr j hj)
            rw [this] at h5; cases h5
          · exact hh)
        (fun p hp => by
          rcases List.mem_cons.1 hp with rfl | hp
          · exact hok.okc p (List.mem_of_getElem? h2)
          · obtain ⟨j, hj, rfl⟩ := List.mem_map.1 hp
            exact hok.okc _ (memcs j (hlt j (memr j hj))))
        (fun p hp => by
          rcases List.mem_cons.1 hp with rfl | hp
          · exact hok.keeps p (List.mem_of_getElem? h2)
          · obtain ⟨j, hj, rfl⟩ := List.mem_map.1 hp
            exact hok.keeps _ (memcs j (hlt j (memr j hj))))
        (by
          rw [List.pairwise_map]
          refine p1.imp_of_mem (fun {j j'} hj hj' hjj => ?_)
          obtain ⟨_, c1, _, q2, q3, _⟩ := hget j (hlt j (memr j hj))
          obtain ⟨_, c2, _, q2', q3', _⟩ := hget j' (hlt j' (memr j' hj'))
          rw [q3, q3']
          exact hok.dst j j' c1 c2 hjj q2 q2')
        (fun p hp => by
          obtain ⟨j, hj, rfl⟩ := List.mem_map.1 hp
          obtain ⟨_, c1, _, q2, q3, _⟩ := hget j (hlt j (memr j hj))
          rw [q3]
          exact hok.dst j i c1 c (hr1 j hj) q2 h2)
        (h.fit (fun p hp => by
          rcases List.mem_cons.1 hp with rfl | hp
          · exact hdead i hirem p h2
          · obtain ⟨j, hj, rfl⟩ := List.mem_map.1 hp
            obtain ⟨_, c1, _, q2, q3, _⟩ := hget j (hlt j (memr j hj))
            rw [q3]
            exact hdead j (memr j hj) c1 q2))
        hask he
      refine simOP hR h ho h3 he1 (fun a' w' G' h' => ?_)
      have hset : ∀ k, k < ops.size → (listed.setIfInBounds i true).getD k true = if i = k then true else listed.getD k true := by
        intro k hk
        rw [Array.getD_eq_getD_getElem?, Array.getElem?_setIfInBounds, Array.getD_eq_getD_getElem?]
        by_cases hik : i = k
        · subst hik; simp [hls, hio]
        · simp [hik]
      refine ih (r1 ++ r2) _ e1 a' w' G' ?_ ?_ ?_ ?_ ?_ ?_ ?_ (asked_step hask (hok.keeps c (List.mem_of_getElem? h2)) he1) h' ?_
      · rw [hrem] at hn; simp at hn ⊢; omega
      · rw [List.pairwise_append]
        exact ⟨p1, (List.pairwise_cons.1 p2).2, fun x hx y hy => p3 x hx y (by simp [hy])⟩
      · intro k hk
        rcases List.mem_append.1 hk with hk | hk
        · exact hlt k (memr k hk)
        · exact hlt k (memr2 k hk)
      · simp [hls]
      · intro k hk
        rw [hset k hk]
        by_cases hik : i = k
        · subst hik
          simp only [if_true]
          refine ⟨fun hh => (by cases hh), fun hh => ?_⟩
          rcases List.mem_append.1 hh with hh | hh
          · have := hr1 i hh; omega
          · have := (List.pairwise_cons.1 p2).1 i hh; omega
        · rw [if_neg hik, hinv k hk, hrem]
          simp only [List.mem_append, List.mem_cons]
          constructor
          · rintro (hh | hh | hh)
            · exact .inl hh
            · exact absurd hh.symm hik
            · exact .inr hh
          · rintro (hh | hh)
            · exact .inl hh
            · exact .inr (.inr hh)
      · intro j hj hjl k hk
        have key : listed.getD k true = true → (listed.setIfInBounds i true).getD k true = true := fun hh => by
          rcases Nat.lt_or_ge k ops.size with hks | hks
          · rw [hset k hks]; split
            · rfl
            · exact hh
          · rw [Array.getD_eq_getD_getElem?, Array.getElem?_eq_none (by simp [hls]; exact hks)]; rfl
        rw [hset j hj] at hjl
        by_cases hij : i = j
        · subst hij; exact key (hancl k hk)
        · rw [if_neg hij] at hjl; exact key (hanc j hj hjl k hk)
      · intro k hk c' hc' hm d hd
        have hkr : k ∈ rem := by
          rcases List.mem_append.1 hk with hk | hk
          · exact memr k hk
          · exact memr2 k hk
        have hki : k ≠ i := fun hh => by
          subst hh
          rcases List.mem_append.1 hk with hh | hh
          · have := hr1 k hh; omega
          · have := (List.pairwise_cons.1 p2).1 k hh; omega
        refine evalOP_dead he1 (fun hh => ?_) (hdead k hkr c' hc' hm d hd)
        rcases Nat.lt_or_gt_of_ne hki with hlt' | hgt
        · exact hok.dst k i c' c hlt' hc' h2 (.inl hm) d hd hh
        · exact hok.dst i k c c' hgt h2 hc' (.inr hm) d hh hd
      · rw [List.map_append]; exact he2

/-- A region whose order is drawn. -/
theorem sim_drawn {ρ : Roots} {ν : List Nat} (hm : P.follows .mixedOrders = true) (hR : VSound P R) (h : Rel base w0 ok0 e a w G) {id : Nat} {cs : List OP} {ks : List Nat} (hcs : compOPs P ops ops.toList = some cs) (hok : regOk2 ρ ν ops.toList cs ks = true) (hask : Asked ρ ν (e.kill ks))
    (he : evalOps R cs (e.kill ks) = some e') (hQ : ∀ a' w' G', Rel base w0 ok0 e' a' w' G' → Q .normal a' w') : (Code.region id ops true).wp P Q a w := by
  have hok' := regOk_spec hok
  obtain ⟨hl, hsp⟩ := compOPs_spec hcs
  have hl' : cs.length = ops.size := by rw [hl]; simp
  refine wp_region_any hm ?_
  obtain ⟨G1, h1⟩ := h.drew.kill ks
  refine simAny hR hcs hok' hQ ops.size (List.range ops.size) _ (e.kill ks) a _ G1 (by simp) List.pairwise_lt_range (fun i hi => List.mem_range.1 hi) (by simp) (fun i hi => ?_) (fun j hj hh => ?_) (fun i hi c hc hm d hd => ?_) hask h1 ?_
  · simp [Array.getElem?_replicate, hi]
  · simp [Array.getElem?_replicate, hj] at hh
  · exact kill_dead ks e d (hok'.kill c (List.mem_of_getElem? hc) hm d hd)
  · have : (List.range ops.size).map (fun i => cs.getD i default) = cs := by
      apply List.ext_getElem?
      intro i
      rw [List.getElem?_map]
      by_cases hi : i < ops.size
      · rw [List.getElem?_range hi]
        have hi' : i < cs.length := by rw [hl']; exact hi
        simp [List.getD_eq_getElem?_getD, List.getElem?_eq_getElem hi']
      · have hi' : cs.length ≤ i := by rw [hl']; omega
        rw [List.getElem?_eq_none (by simpa using Nat.le_of_not_lt hi), List.getElem?_eq_none hi']; rfl
    rw [this]; exact he

end
end Go.Bv
