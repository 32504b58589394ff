/- BY VALUE, part 7: regions in the text's order. -/
import Derived.Test.YtnfmilnlekmjgaaBvOps11
import Derived.Test.YtnfmilnlekmjgaaBvCore
set_option linter.unusedVariables false
set_option linter.unusedSimpArgs false
namespace Go.Bv
open Go.RowKit

def compG (ops : Array Oper) : Option (Nat × Bool) → Option (Option (Nat × Bool))
  | none => some none
  | some (j, want) => match (ops[j]?).bind (·.dst) with
    | some t => some (some (t, want))
    | none => none

def compOP (P : Program) (ops : Array Oper) (o : Oper) : Option OP :=
  match compO P o, compG ops o.guard with
  | some op, some g => some ⟨o.dst, op, g⟩
  | _, _ => none

def compOPs (P : Program) (ops : Array Oper) : List Oper → Option (List OP)
  | [] => some []
  | o :: l => match compOP P ops o, compOPs P ops l with
    | some c, some m => some (c :: m)
    | _, _ => none

section
variable {P : Program} {base : Nat} {w0 : World} {ok0 : Nat → Nat → Prop} {e : Env} {a : Act} {w : World} {G : Gh}
variable {R : Nat → List AV → Option AV} {K : Act → World → Prop} {Q : Exit → Act → World → Prop} {e' : Env} {ops : Array Oper}

theorem compOPs_spec : ∀ {l : List Oper} {m : List OP}, compOPs P ops l = some m → m.length = l.length ∧ ∀ i, i < l.length → ∃ o c, l[i]? = some o ∧ m[i]? = some c ∧ compOP P ops o = some c
  | [], m, h => by simp [compOPs] at h; subst h; exact ⟨rfl, fun i hi => absurd hi (by simp)⟩
  | o :: l, m, h => by
    simp only [compOPs] at h
    cases h1 : compOP P ops o with
    | none => simp [h1] at h
    | some c =>
      cases h2 : compOPs P ops l with
      | none => simp [h1, h2] at h
      | some m' =>
        simp only [h1, h2, Option.some.injEq] at h
        subst h
        obtain ⟨i1, i2⟩ := compOPs_spec h2
        refine ⟨by simp [i1], fun i hi => ?_⟩
        cases i with
        | zero => exact ⟨o, c, rfl, rfl, h1⟩
        | succ i => simpa using i2 i (by simpa using hi)

theorem simOP (hR : VSound P R) (h : Rel base w0 ok0 e a w G) {i : Nat} {o : Oper} {c : OP} (hi : ops[i]? = some o) (hc : compOP P ops o = some c) (he : evalOP R e c = some e')
    (hK : ∀ a' w' G', Rel base w0 ok0 e' a' w' G' → K a' w') : wpOp P ops Q i K a w := by
  unfold compOP at hc
  cases h1 : compO P o with
  | none => simp [h1] at hc
  | some op =>
    cases h2 : compG ops o.guard with
    | none => simp [h1, h2] at hc
    | some g =>
      simp only [h1, h2, Option.some.injEq] at hc
      subst hc
      unfold wpOp
      simp only [hi]
      cases hg : o.guard with
      | none =>
        rw [hg] at h2
        simp [compG] at h2
        subst h2
        have hw : Region.wanted o (yielded ops a.tmps) = true := by simp [Region.wanted, hg]
        rw [if_pos hw]
        exact .inl (simO hR h h1 he hK)
      | some jw =>
        obtain ⟨j, want⟩ := jw
        rw [hg] at h2
        simp only [compG] at h2
        cases h3 : (ops[j]?).bind (·.dst) with
        | none => simp [h3] at h2
        | some t =>
          simp only [h3, Option.some.injEq] at h2
          subst h2
          simp only [evalOP] at he
          by_cases hund : e.tmps.getD t .unk = .und
          · rw [hund] at he
            simp only [Option.some.injEq] at he
            subst he
            have ht : t < e.tmps.length := by
              rcases Nat.lt_or_ge t e.tmps.length with ht | ht
              · exact ht
              · simp [List.getD_eq_getElem?_getD, List.getElem?_eq_none ht] at hund
            have hv := h.tmps t ht
            rw [hund] at hv
            have hb : a.tmps.getD t undef = undef := by
              generalize a.tmps.getD t undef = v at hv
              cases hv; rfl
            have hts : t < a.tmps.size := by rw [h.size]; exact ht
            have hy : yielded ops a.tmps j = none := by
              have h5 : a.tmps[t]? = some undef := by
                rw [Array.getD_eq_getD_getElem?, Array.getElem?_eq_getElem hts] at hb
                rw [Array.getElem?_eq_getElem hts]
                simpa using hb
              simp [yielded, h3, h5, undef]
            have hw : Region.wanted o (yielded ops a.tmps) = false := by simp [Region.wanted, hg, hy]
            rw [if_neg (by rw [hw]; simp)]
            exact hK _ _ _ (h.put o.dst RepR.und.toT)
          cases h4 : e.tmps.getD t .unk <;> simp only [h4] at he <;> (first | (cases he; done) | exact absurd h4 hund | skip)
          rename_i b
          have ht : t < e.tmps.length := by
            rcases Nat.lt_or_ge t e.tmps.length with ht | ht
            · exact ht
            · simp [List.getD_eq_getElem?_getD, List.getElem?_eq_none ht] at h4
          have hv := h.tmps t ht
          rw [h4] at hv
          have hb := inv_bool hv
          have hts : t < a.tmps.size := by rw [h.size]; exact ht
          have hy : yielded ops a.tmps j = some b := by
            have h5 : a.tmps[t]? = some (.bool b) := by
              rw [Array.getD_eq_getD_getElem?, Array.getElem?_eq_getElem hts] at hb
              rw [Array.getElem?_eq_getElem hts]
              simpa using hb
            simp [yielded, h3, h5]
          have hw : Region.wanted o (yielded ops a.tmps) = (b == want) := by simp [Region.wanted, hg, hy]
          by_cases hbw : b = want
          · rw [if_pos hbw] at he
            rw [if_pos (by rw [hw]; simp [hbw])]
            exact .inl (simO hR h h1 he hK)
          · rw [if_neg hbw] at he
            cases he
            rw [if_neg (by rw [hw]; simp [hbw])]
            exact hK _ _ _ (h.put o.dst RepR.und.toT)

theorem simOps (hR : VSound P R) {cs : List OP} (hcs : compOPs P ops ops.toList = some cs) (hQ : ∀ a' w' G', Rel base w0 ok0 e' a' w' G' → Q .normal a' w') :
    ∀ (n k : Nat) (e : Env) (a : Act) (w : World) (G : Gh), k + n = ops.size → Rel base w0 ok0 e a w G → evalOps R (cs.drop k) e = some e' → wpOps P ops Q (List.range' k n) a w := by
  obtain ⟨hl, hsp⟩ := compOPs_spec hcs
  intro n
  induction n with
  | zero =>
    intro k e a w G hk h he
    have : cs.drop k = [] := List.drop_eq_nil_of_le (by rw [hl]; simp; omega)
    rw [this] at he
    cases he
    exact hQ _ _ _ h
  | succ n ih =>
    intro k e a w G hk h he
    have hk' : k < ops.toList.length := by simp; omega
    obtain ⟨o, c, h1, h2, h3⟩ := hsp k hk'
    have hlt : k < cs.length := by rw [hl]; exact hk'
    have hc : cs[k] = c := by rw [List.getElem?_eq_getElem hlt] at h2; simpa using h2
    rw [List.drop_eq_getElem_cons hlt, hc] at he
    simp only [evalOps] at he
    cases h4 : evalOP R e c with
    | none => simp [h4] at he
    | some e1 =>
      simp only [h4] at he
      rw [List.range'_succ, wpOps_cons]
      exact simOP hR h (by rw [← Array.getElem?_toList]; exact h1) h3 h4 (fun a' w' G' h' => ih (k + 1) e1 a' w' G' (by omega) h' he)

/-- A region in the text's order. -/
theorem sim_region (hR : VSound P R) (h : Rel base w0 ok0 e a w G) {id : Nat} {cs : List OP} (hcs : compOPs P ops ops.toList = some cs) (he : evalOps R cs e = some e')
    (hQ : ∀ a' w' G', Rel base w0 ok0 e' a' w' G' → Q .normal a' w') : (Code.region id ops false).wp P Q a w := by
  refine wp_region ?_
  rw [List.range_eq_range']
  exact simOps hR hcs hQ ops.size 0 e a w G (by omega) h (by simpa using he)

/-! ### What a draw leaves -/
theorem Rel.drew (h : Rel base w0 ok0 e a w G) : Rel base w0 ok0 e a w.drew G := by
  have h1 := h.world (w' := w.drew) ((Below.refl _ _).drew) (fun _ _ => False) (fun _ _ hh => hh.elim)
  have : (fun b o => G.ok b o ∨ False) = G.ok := by funext b o; simp
  rw [this] at h1
  exact h1

/-! ### Keys that are given up -/
def Env.kill1 (e : Env) (d : Nat) : Env := { e with objs := e.objs.modify d AObj.kill }
theorem Env.kill_cons (e : Env) (d : Nat) (ks : List Nat) : e.kill (d :: ks) = (e.kill1 d).kill ks := rfl
theorem Env.kill_nil (e : Env) : e.kill [] = e := rfl

theorem Env.kill1_eq (e : Env) (d : Nat) (hd : d < e.objs.length) : e.kill1 d = e.setObj d (e.gen d + 1) .dead := by
  unfold Env.kill1 Env.setObj Env.gen
  congr 1
  apply List.ext_getElem?
  intro i
  rw [List.getElem?_modify, List.getElem?_set]
  by_cases h : d = i
  · subst h
    simp only [if_true, List.getElem?_eq_getElem hd, hd, AObj.kill]
    rfl
  · rw [if_neg h]; simp [h]

theorem Env.kill1_out (e : Env) (d : Nat) (hd : ¬ d < e.objs.length) : e.kill1 d = e := by
  unfold Env.kill1
  have : e.objs.modify d AObj.kill = e.objs := by
    apply List.ext_getElem?
    intro i
    rw [List.getElem?_modify]
    by_cases h : d = i
    · subst h; simp [List.getElem?_eq_none (Nat.le_of_not_lt hd)]
    · simp [h]
  rw [this]

theorem Rel.kill1 (h : Rel base w0 ok0 e a w G) (d : Nat) : ∃ G', Rel base w0 ok0 (e.kill1 d) a w G' := by
  by_cases hd : d < e.objs.length
  · rw [Env.kill1_eq e d hd]
    exact ⟨_, h.change hd (Weaker.newer hd (by omega)) (Below.refl _ _) (fun _ _ _ _ _ => rfl) (fun _ _ _ => SameAt.refl) (fun hh => by omega) (fun hh => by omega) (by omega) (nv := .nilFunc) trivial (fun hh => by cases hh)⟩
  · rw [Env.kill1_out e d hd]; exact ⟨G, h⟩

theorem Rel.kill (h : Rel base w0 ok0 e a w G) : ∀ ks, ∃ G', Rel base w0 ok0 (e.kill ks) a w G' := by
  intro ks
  induction ks generalizing e G with
  | nil => exact ⟨G, h⟩
  | cons d ks ih =>
    obtain ⟨G1, h1⟩ := h.kill1 d
    exact ih h1

end
end Go.Bv

/- BY VALUE, part 8: operations that may be taken in either order. Nothing of the machine stands here. -/
set_option linter.unusedVariables false
set_option linter.unusedSimpArgs false
namespace Go.Bv

def X.tmp : X → List Nat
  | .t n => [n]
  | .c _ => []
def xtmps : List X → List Nat
  | [] => []
  | x :: l => x.tmp ++ xtmps l
def xotmp : Option X → List Nat
  | none => []
  | some x => x.tmp
def ptmps : List (Nat × Nat × X) → List Nat
  | [] => []
  | p :: l => p.2.2.tmp ++ ptmps l

def O.reads : O → List Nat
  | .mv x | .box _ x | .un _ x | .cvi _ x | .cvs x | .cvsb x | .cvbs x | .lens x | .len x | .ext x _ | .nck x | .ld _ x | .fa _ _ x | .cpy _ _ _ x => x.tmp
  | .new .. => []
  | .pick c a b => c.tmp ++ (a.tmp ++ b.tmp)
  | .bld _ ps => ptmps ps
  | .lit _ _ xs => xtmps xs
  | .call _ xs => xtmps xs
  | .clo _ xs => xtmps xs
  | .bldo _ ps _ x => x.tmp ++ ptmps ps
  | .calld x xs => x.tmp ++ xtmps xs
  | .st _ p x => p.tmp ++ x.tmp
  | .ia _ x i | .ix x i | .lkp x i => x.tmp ++ i.tmp
  | .subs x lo hi | .sub _ x lo hi => x.tmp ++ (xotmp lo ++ xotmp hi)
  | .mk _ _ _ _ n => n.tmp
  | .bin _ x y | .beq _ x y | .eqs _ _ x y | .mnx _ x y => x.tmp ++ y.tmp
  | .app _ _ _ s x | .apps _ s x => s.tmp ++ x.tmp

def OP.reads (c : OP) : List Nat := (match c.guard with | some (t, _) => [t] | none => []) ++ c.op.reads

inductive Cls where
  | n
  | v
  | w
  deriving DecidableEq

def O.cls : O → Cls
  | .mv _ | .pick .. | .bin .. | .beq .. | .eqs .. | .un .. | .cvi .. | .cvs _ | .cvsb _ | .ext .. | .lens _ | .ix .. | .subs .. | .mnx .. | .lkp .. => .n
  | .st .. | .app .. | .apps .. => .w
  | _ => .v

/-- May it make something at its destination? -/
def O.makes : O → Bool
  | .box .. | .new .. | .mk .. | .call .. | .calld .. | .cpy .. => true
  | _ => false

def apartC (a b : OP) : Bool :=
  (match a.dst with
  | some d => !b.reads.contains d && b.dst != some d
  | none => true) &&
  (match b.dst with
  | some d => !a.reads.contains d
  | none => true) &&
  (match a.op.cls, b.op.cls with
  | .w, .n => true
  | .n, .w => true
  | .w, _ => false
  | _, .w => false
  | _, _ => true)

/-! ### What there is behind a reference, as far as an operation asks -/
inductive Cont where
  | box (l : List AV)
  | row (E c : Nat) (l : List (List AV))

def OK.cont : OK → Option Cont
  | .dead => none
  | .box l => some (.box l)
  | .row E c _ l => some (.row E c l)

def Env.cont (e : Env) (d g : Nat) : Option Cont := (e.ok? d g).bind OK.cont

/-- The references in a value are such. -/
def bdd1 (q : Nat → Nat → Prop) : AV → Prop
  | .own d g => q d g
  | _ => True
def bddA (q : Nat → Nat → Prop) : AV → Prop
  | .own d g => q d g
  | .ptr d g _ => q d g
  | .rp d g _ _ => q d g
  | .agg l => ∀ A ∈ l, bdd1 q A
  | .aggo _ d g l => q d g ∧ ∀ A ∈ l, bdd1 q A
  | _ => True

structure Bdd (q : Nat → Nat → Prop) (e : Env) : Prop where
  tmps : ∀ t, bddA q (e.tmps.getD t .unk)
  box : ∀ d g l, e.ok? d g = some (.box l) → ∀ A ∈ l, bdd1 q A

def X.okc : X → Bool
  | .t _ => true
  | .c A => A.pure
/-- Its constants lead nowhere. -/
def O.okc : O → Bool
  | .mv x | .box _ x | .un _ x | .cvi _ x | .cvs x | .cvsb x | .cvbs x | .lens x | .len x | .ext x _ | .nck x | .ld _ x | .fa _ _ x | .cpy _ _ _ x => x.okc
  | .new _ z => z.all AV.pure
  | .pick c a b => c.okc && (a.okc && b.okc)
  | .bld z ps => z.all AV.pure && ps.all (fun p => p.2.2.okc)
  | .lit _ _ xs => xs.all X.okc
  | .call _ xs => xs.all X.okc
  | .clo _ xs => xs.all X.okc
  | .bldo z ps _ x => x.okc && (z.all AV.pure && ps.all (fun p => p.2.2.okc))
  | .calld x xs => x.okc && xs.all X.okc
  | .st _ p x => p.okc && x.okc
  | .ia _ x i | .ix x i | .lkp x i => x.okc && i.okc
  | .subs x lo hi | .sub _ x lo hi => x.okc && (lo.all X.okc && hi.all X.okc)
  | .mk _ _ _ z n => z.all AV.pure && n.okc
  | .bin _ x y | .beq _ x y | .eqs _ _ x y | .mnx _ x y => x.okc && y.okc
  | .app _ _ _ s x | .apps _ s x => s.okc && x.okc

theorem okc {e e' : Env} {d g : Nat} (h : e'.cont d g = e.cont d g) :
    (∃ l, e.ok? d g = some (.box l) ∧ e'.ok? d g = some (.box l)) ∨ (∃ E c f f' l, e.ok? d g = some (.row E c f l) ∧ e'.ok? d g = some (.row E c f' l)) ∨
    ((e.ok? d g = none ∨ e.ok? d g = some .dead) ∧ (e'.ok? d g = none ∨ e'.ok? d g = some .dead)) := by
  unfold Env.cont at h
  cases h1 : e.ok? d g with
  | none =>
    cases h2 : e'.ok? d g with
    | none => exact .inr (.inr ⟨.inl rfl, .inl rfl⟩)
    | some k => cases k <;> simp [h1, h2, OK.cont] at h; exact .inr (.inr ⟨.inl rfl, .inr rfl⟩)
  | some k =>
    cases k with
    | dead =>
      cases h2 : e'.ok? d g with
      | none => exact .inr (.inr ⟨.inr rfl, .inl rfl⟩)
      | some k => cases k <;> simp [h1, h2, OK.cont] at h; exact .inr (.inr ⟨.inr rfl, .inr rfl⟩)
    | box l =>
      cases h2 : e'.ok? d g with
      | none => simp [h1, h2, OK.cont] at h
      | some k => cases k <;> simp [h1, h2, OK.cont] at h; subst h; exact .inl ⟨_, rfl, rfl⟩
    | row E c f l =>
      cases h2 : e'.ok? d g with
      | none => simp [h1, h2, OK.cont] at h
      | some k => cases k <;> simp [h1, h2, OK.cont] at h; obtain ⟨rfl, rfl, rfl⟩ := h; exact .inr (.inl ⟨_, _, _, _, _, rfl, rfl⟩)

/-- 'e'' tells the same as 'e' wherever 'e''s own references lead. -/
structure Sees (q : Nat → Nat → Prop) (e e' : Env) : Prop where
  cont : ∀ d g, q d g → e'.cont d g = e.cont d g

section
variable {R : Nat → List AV → Option AV} {e e' : Env} {q : Nat → Nat → Prop}

theorem pure_bdd1 {A : AV} (h : A.pure = true) : bdd1 q A := by cases A <;> first | trivial | (simp [AV.pure] at h)
theorem pure_bddA {A : AV} (h : A.pure = true) : bddA q A := by cases A <;> first | trivial | (simp [AV.pure] at h)

theorem get_bdd (hb : Bdd q e) {x : X} (hx : x.okc = true) : bddA q (e.get x) := by
  cases x with
  | t n => exact hb.tmps n
  | c A => exact pure_bddA hx

theorem view1_sees (hs : Sees q e e') {A : AV} (hb : bdd1 q A) : e'.view1 A = e.view1 A := by
  cases A <;> try rfl
  rename_i d g
  simp only [Env.view1]
  rcases okc (hs.cont d g hb) with ⟨l, h1, h2⟩ | ⟨E, c, f, f', l, h1, h2⟩ | ⟨h1 | h1, h2 | h2⟩ <;> simp [h1, h2]

theorem views_sees (hs : Sees q e e') : ∀ {l : List AV}, (∀ A ∈ l, bdd1 q A) → e'.views l = e.views l
  | [], _ => rfl
  | A :: l, hb => by
    simp only [Env.views]
    rw [view1_sees hs (hb A (by simp)), views_sees hs (fun B hB => hb B (by simp [hB]))]

theorem bddA_1 {A : AV} (h : bddA q A) : bdd1 q A := by cases A <;> first | exact h | trivial

theorem set_bdd1 {j d g : Nat} {l : List AV} (h : bddA q (.aggo j d g l)) : ∀ A ∈ l.set j (.own d g), bdd1 q A := fun A hA => by
  rcases List.mem_or_eq_of_mem_set hA with hh | hh
  · exact h.2 A hh
  · subst hh; exact h.1
theorem cells_sees (hs : Sees q e e') {A : AV} (hb : bddA q A) : e'.cells A = e.cells A := by
  cases A <;> simp only [Env.cells] <;> first
    | exact views_sees hs hb
    | exact views_sees hs (set_bdd1 hb)
    | exact views_sees hs (fun B hB => by
        rw [List.mem_singleton] at hB
        subst hB
        exact bddA_1 hb)

theorem arg_sees (hs : Sees q e e') {A : AV} (hb : bddA q A) : e'.arg A = e.arg A := by
  cases A <;> simp only [Env.arg] <;> first
    | rw [views_sees hs hb]
    | rw [views_sees hs (set_bdd1 hb)]
    | rw [view1_sees hs (bddA_1 hb)]

theorem elems_sees (hs : Sees q e e') {A : AV} (hb : bddA q A) : e'.elems A = e.elems A := by
  cases A <;> try rfl
  rename_i d g
  simp only [Env.elems]
  rcases okc (hs.cont d g hb) with ⟨l, h1, h2⟩ | ⟨E, c, f, f', l, h1, h2⟩ | ⟨h1 | h1, h2 | h2⟩ <;> simp [h1, h2]

theorem get_same {x : X} (h : ∀ t ∈ x.tmp, e'.tmps.getD t .unk = e.tmps.getD t .unk) : e'.get x = e.get x := by
  cases x with
  | t n => exact h n (by simp [X.tmp])
  | c A => rfl

theorem args_sees (hs : Sees q e e') (hb : Bdd q e) : ∀ {xs : List X}, xs.all X.okc = true → (∀ t ∈ xtmps xs, e'.tmps.getD t .unk = e.tmps.getD t .unk) → e'.args xs = e.args xs
  | [], _, _ => rfl
  | x :: xs, hx, ht => by
    simp only [List.all_cons, Bool.and_eq_true] at hx
    have hg : e'.get x = e.get x := get_same (fun t h => ht t (by simp [xtmps, h]))
    simp only [Env.args, hg, arg_sees hs (get_bdd hb hx.1), args_sees hs hb hx.2 (fun t h => ht t (by simp [xtmps, h]))]

theorem lits_sees (hs : Sees q e e') (hb : Bdd q e) {c : Nat} : ∀ {xs : List X}, xs.all X.okc = true → (∀ t ∈ xtmps xs, e'.tmps.getD t .unk = e.tmps.getD t .unk) → lits e' c xs = lits e c xs
  | [], _, _ => rfl
  | x :: xs, hx, ht => by
    simp only [List.all_cons, Bool.and_eq_true] at hx
    have hg : e'.get x = e.get x := get_same (fun t h => ht t (by simp [xtmps, h]))
    simp only [lits, hg, cells_sees hs (get_bdd hb hx.1), lits_sees hs hb hx.2 (fun t h => ht t (by simp [xtmps, h]))]

theorem fill_sees (hs : Sees q e e') (hb : Bdd q e) : ∀ {ps : List (Nat × Nat × X)} {z : List AV}, ps.all (fun p => p.2.2.okc) = true → (∀ t ∈ ptmps ps, e'.tmps.getD t .unk = e.tmps.getD t .unk) → fill e' z ps = fill e z ps
  | [], _, _, _ => rfl
  | (off, n, x) :: ps, z, hx, ht => by
    simp only [List.all_cons, Bool.and_eq_true] at hx
    have hg : e'.get x = e.get x := get_same (fun t h => ht t (by simp [ptmps, h]))
    simp only [fill, hg, cells_sees hs (get_bdd hb hx.1)]
    cases e.cells (e.get x) with
    | none => rfl
    | some r =>
      obtain ⟨l, ks⟩ := r
      simp only
      rw [fill_sees hs hb hx.2 (fun t h => ht t (by simp [ptmps, h]))]

theorem oget_same {x : Option X} (h : ∀ t ∈ xotmp x, e'.tmps.getD t .unk = e.tmps.getD t .unk) : x.map e'.get = x.map e.get := by
  cases x with
  | none => rfl
  | some x => simp only [Option.map_some]; rw [get_same h]

/-- An operation that doesn't write gives the same wherever what it reads is told the same. -/
theorem act_sees (hs : Sees q e e') (hb : Bdd q e) {o : O} (hc : o.okc = true) (hw : o.cls ≠ .w) (ht : ∀ t ∈ o.reads, e'.tmps.getD t .unk = e.tmps.getD t .unk) : act R e' o = act R e o := by
  cases o <;> simp only [O.reads, O.okc, List.mem_append, Bool.and_eq_true, List.not_mem_nil] at ht hc <;> try (exact absurd rfl hw)
  case mv x => simp only [act, get_same ht]
  case pick c a b => simp only [act, get_same (fun t h => ht t (.inl h)), get_same (fun t h => ht t (.inr (.inl h))), get_same (fun t h => ht t (.inr (.inr h)))]
  case box T x => simp only [act, get_same ht, cells_sees hs (get_bdd hb hc)]
  case new T z => rfl
  case bld z ps => simp only [act, fill_sees hs hb hc.2 ht]
  case lit E c xs => simp only [act, lits_sees hs hb hc ht]
  case ld n x =>
    have hg := get_bdd hb hc
    cases n with
    | none =>
      simp only [act, get_same ht]
      cases hx : e.get x <;> simp only [hx] at hg <;> try rfl
      · rename_i d g off
        rcases okc (hs.cont d g hg) with ⟨l, h1, h2⟩ | ⟨E, c, f, f', l, h1, h2⟩ | ⟨h1 | h1, h2 | h2⟩ <;> simp [h1, h2]
      · rename_i d g i j
        rcases okc (hs.cont d g hg) with ⟨l, h1, h2⟩ | ⟨E, c, f, f', l, h1, h2⟩ | ⟨h1 | h1, h2 | h2⟩ <;> simp [h1, h2]
    | some n =>
      simp only [act, get_same ht]
      cases hx : e.get x <;> simp only [hx] at hg <;> try rfl
      · rename_i d g off
        rcases okc (hs.cont d g hg) with ⟨l, h1, h2⟩ | ⟨E, c, f, f', l, h1, h2⟩ | ⟨h1 | h1, h2 | h2⟩ <;> simp only [h1, h2]
        rw [views_sees hs (fun A hA => hb.box d g l h1 A (List.mem_of_mem_drop (List.mem_of_mem_take hA)))]
      · rename_i d g i j
        rcases okc (hs.cont d g hg) with ⟨l, h1, h2⟩ | ⟨E, c, f, f', l, h1, h2⟩ | ⟨h1 | h1, h2 | h2⟩ <;> simp [h1, h2]
  case fa off n x =>
    have hg := get_bdd hb hc
    simp only [act, get_same ht]
    cases hx : e.get x <;> simp only [hx] at hg <;> try rfl
    · rename_i d g off
      rcases okc (hs.cont d g hg) with ⟨l, h1, h2⟩ | ⟨E, c, f, f', l, h1, h2⟩ | ⟨h1 | h1, h2 | h2⟩ <;> simp [h1, h2]
    · rename_i d g i j
      rcases okc (hs.cont d g hg) with ⟨l, h1, h2⟩ | ⟨E, c, f, f', l, h1, h2⟩ | ⟨h1 | h1, h2 | h2⟩ <;> simp [h1, h2]
  case nck x =>
    have hg := get_bdd hb hc
    simp only [act, get_same ht]
    cases hx : e.get x <;> simp only [hx] at hg <;> try rfl
    · rename_i d g off
      rcases okc (hs.cont d g hg) with ⟨l, h1, h2⟩ | ⟨E, c, f, f', l, h1, h2⟩ | ⟨h1 | h1, h2 | h2⟩ <;> simp [h1, h2]
    · rename_i d g i j
      rcases okc (hs.cont d g hg) with ⟨l, h1, h2⟩ | ⟨E, c, f, f', l, h1, h2⟩ | ⟨h1 | h1, h2 | h2⟩ <;> simp [h1, h2]
  case ia c x i =>
    have hg := get_bdd hb hc.1
    simp only [act, get_same (fun t h => ht t (.inl h)), get_same (fun t h => ht t (.inr h))]
    cases e.get i <;> try rfl
    simp only
    cases hx : e.get x <;> simp only [hx] at hg <;> try rfl
    rename_i d g
    rcases okc (hs.cont d g hg) with ⟨l, h1, h2⟩ | ⟨E, c, f, f', l, h1, h2⟩ | ⟨h1 | h1, h2 | h2⟩ <;> simp [h1, h2]
  case ix x i => simp only [act, get_same (fun t h => ht t (.inl h)), get_same (fun t h => ht t (.inr h))]
  case lkp x i => simp only [act, get_same (fun t h => ht t (.inl h)), get_same (fun t h => ht t (.inr h))]
  case subs x lo hi => simp only [act, get_same (fun t h => ht t (.inl h)), oget_same (fun t h => ht t (.inr (.inl h))), oget_same (fun t h => ht t (.inr (.inr h)))]
  case sub c x lo hi => simp only [act, get_same (fun t h => ht t (.inl h)), oget_same (fun t h => ht t (.inr (.inl h))), oget_same (fun t h => ht t (.inr (.inr h))), elems_sees hs (get_bdd hb hc.1)]
  case mk E c by_ z n => simp only [act, get_same ht]
  case bin op x y => simp only [act, get_same (fun t h => ht t (.inl h)), get_same (fun t h => ht t (.inr h))]
  case beq ne x y => simp only [act, get_same (fun t h => ht t (.inl h)), get_same (fun t h => ht t (.inr h))]
  case eqs ne n x y => simp only [act, get_same (fun t h => ht t (.inl h)), get_same (fun t h => ht t (.inr h))]
  case mnx mx x y => simp only [act, get_same (fun t h => ht t (.inl h)), get_same (fun t h => ht t (.inr h))]
  case un op x => simp only [act, get_same ht]
  case cvi k x => simp only [act, get_same ht]
  case cvs x => simp only [act, get_same ht]
  case cvsb x => simp only [act, get_same ht]
  case cvbs x => simp only [act, get_same ht, elems_sees hs (get_bdd hb hc)]
  case lens x => simp only [act, get_same ht]
  case len x => simp only [act, get_same ht, elems_sees hs (get_bdd hb hc)]
  case ext x i => simp only [act, get_same ht]
  case cpy E c by_ x => simp only [act, get_same ht, elems_sees hs (get_bdd hb hc)]
  case call f xs => simp only [act, args_sees hs hb hc ht]
  case bldo z ps j x =>
    have hg := get_bdd hb hc.1
    simp only [act, get_same (fun t h => ht t (.inl h)), fill_sees hs hb hc.2.2 (fun t h => ht t (.inr h))]
    cases hx : e.get x <;> simp only [hx] at hg <;> try rfl
    rename_i d g
    rcases okc (hs.cont d g hg) with ⟨l, h1, h2⟩ | ⟨E, c, f, f', l, h1, h2⟩ | ⟨h1 | h1, h2 | h2⟩ <;> simp [h1, h2]
  case clo f xs => simp only [act, args_sees hs hb hc ht]
  case calld x xs => simp only [act, get_same (fun t h => ht t (.inl h)), args_sees hs hb hc.2 (fun t h => ht t (.inr h))]

/-- An operation that asks nothing of memory. -/
theorem act_n {o : O} (hn : o.cls = .n) (ht : ∀ t ∈ o.reads, e'.tmps.getD t .unk = e.tmps.getD t .unk) : act R e' o = act R e o := by
  cases o <;> simp only [O.reads, List.mem_append] at ht <;> try (cases hn; done)
  case mv x => simp only [act, get_same ht]
  case pick c a b => simp only [act, get_same (fun t h => ht t (.inl h)), get_same (fun t h => ht t (.inr (.inl h))), get_same (fun t h => ht t (.inr (.inr h)))]
  case ix x i => simp only [act, get_same (fun t h => ht t (.inl h)), get_same (fun t h => ht t (.inr h))]
  case lkp x i => simp only [act, get_same (fun t h => ht t (.inl h)), get_same (fun t h => ht t (.inr h))]
  case subs x lo hi => simp only [act, get_same (fun t h => ht t (.inl h)), oget_same (fun t h => ht t (.inr (.inl h))), oget_same (fun t h => ht t (.inr (.inr h)))]
  case bin op x y => simp only [act, get_same (fun t h => ht t (.inl h)), get_same (fun t h => ht t (.inr h))]
  case beq ne x y => simp only [act, get_same (fun t h => ht t (.inl h)), get_same (fun t h => ht t (.inr h))]
  case eqs ne n x y => simp only [act, get_same (fun t h => ht t (.inl h)), get_same (fun t h => ht t (.inr h))]
  case mnx mx x y => simp only [act, get_same (fun t h => ht t (.inl h)), get_same (fun t h => ht t (.inr h))]
  case un op x => simp only [act, get_same ht]
  case cvi k x => simp only [act, get_same ht]
  case cvs x => simp only [act, get_same ht]
  case cvsb x => simp only [act, get_same ht]
  case lens x => simp only [act, get_same ht]
  case ext x i => simp only [act, get_same ht]

end
end Go.Bv
