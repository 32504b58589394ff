/- BY VALUE, part 9: what an operation gives leads to nothing that there is not yet. -/
import Derived.Test.YtnfmilnlekmjgaaBvReg1
import Derived.Test.YtnfmilnlekmjgaaBvRep
set_option linter.unusedVariables false
set_option linter.unusedSimpArgs false
namespace Go.Bv

section
variable {R : Nat → List AV → Option AV} {e e' : Env}

/-- A key and a turn of it that has been. -/
def Env.q (e : Env) (d g : Nat) : Prop := g ≤ e.gen d
def Env.box1 (e : Env) : Prop := ∀ d g l, e.ok? d g = some (.box l) → ∀ A ∈ l, A.cell1 = true

/-! ### The keys that an operation asks to be read only from now on are those of rows -/
def KeysLive (e : Env) (ks : List Nat) : Prop := ∀ k ∈ ks, ∃ E c f l, e.kind k = .row E c f l
theorem KeysLive.nil : KeysLive e [] := fun k hk => absurd hk (by simp)
theorem KeysLive.append {ks ks' : List Nat} (h : KeysLive e ks) (h' : KeysLive e ks') : KeysLive e (ks ++ ks') := fun k hk => by
  rcases List.mem_append.1 hk with hk | hk
  · exact h k hk
  · exact h' k hk
theorem KeysLive.one {d g E c f : Nat} {l : List (List AV)} (h : e.ok? d g = some (.row E c f l)) : KeysLive e [d] := fun k hk => by
  rw [List.mem_singleton] at hk
  subst hk
  exact ⟨E, c, f, l, (Env.ok?_eq h).2.2⟩

theorem view1_keys {A B : AV} {ks : List Nat} (h : e.view1 A = some (B, ks)) : KeysLive e ks ∧ B.pure = true := by
  cases A <;> simp only [Env.view1] at h <;> try (cases h; done)
  case own d g =>
    cases hk : e.ok? d g with
    | none => simp [hk] at h
    | some k =>
      cases k <;> simp [hk] at h
      obtain ⟨rfl, rfl⟩ := h
      exact ⟨KeysLive.one hk, rfl⟩
  all_goals
    simp only [Option.some.injEq, Prod.mk.injEq] at h
    obtain ⟨rfl, rfl⟩ := h
    exact ⟨KeysLive.nil, rfl⟩

theorem views_keys : ∀ {l m : List AV} {ks : List Nat}, e.views l = some (m, ks) → KeysLive e ks ∧ ∀ A ∈ m, A.pure = true
  | [], m, ks, h => by simp [Env.views] at h; obtain ⟨rfl, rfl⟩ := h; exact ⟨KeysLive.nil, fun A hA => absurd hA (by simp)⟩
  | A :: l, m, ks, h => by
    simp only [Env.views] at h
    cases h1 : e.view1 A with
    | none => simp [h1] at h
    | some r =>
      obtain ⟨B, k1⟩ := r
      simp only [h1] at h
      cases h2 : e.views l with
      | none => simp [h2] at h
      | some r =>
        obtain ⟨l', k2⟩ := r
        simp only [h2, Option.some.injEq, Prod.mk.injEq] at h
        obtain ⟨rfl, rfl⟩ := h
        obtain ⟨i1, i2⟩ := views_keys h2
        obtain ⟨j1, j2⟩ := view1_keys h1
        refine ⟨j1.append i1, fun C hC => ?_⟩
        rcases List.mem_cons.1 hC with rfl | hC
        · exact j2
        · exact i2 C hC

theorem cells_keys {A : AV} {m : List AV} {ks : List Nat} (h : e.cells A = some (m, ks)) : KeysLive e ks ∧ ∀ A ∈ m, A.pure = true := by
  cases A <;> exact views_keys h

theorem arg_keys {A B : AV} {ks : List Nat} (h : e.arg A = some (B, ks)) : KeysLive e ks := by
  by_cases hagg : ∃ l, A = .agg l
  · obtain ⟨l, rfl⟩ := hagg
    simp only [Env.arg] at h
    cases h1 : e.views l with
    | none => simp [h1] at h
    | some r =>
      obtain ⟨m, k⟩ := r
      simp only [h1, Option.some.injEq, Prod.mk.injEq] at h
      obtain ⟨rfl, rfl⟩ := h
      exact (views_keys h1).1
  by_cases hago : ∃ j d g l0, A = .aggo j d g l0
  · obtain ⟨j, d, g, l0, rfl⟩ := hago
    simp only [Env.arg] at h
    cases h1 : e.views (l0.set j (.own d g)) with
    | none => simp [h1] at h
    | some r =>
      obtain ⟨m, k⟩ := r
      simp only [h1, Option.some.injEq, Prod.mk.injEq] at h
      obtain ⟨rfl, rfl⟩ := h
      exact (views_keys h1).1
  · have : e.arg A = match e.view1 A with
        | some (B, ks) => some (B.norm, ks)
        | none => none := by cases A <;> first | rfl | exact absurd ⟨_, rfl⟩ hagg | exact absurd ⟨_, _, _, _, rfl⟩ hago
    rw [this] at h
    cases h1 : e.view1 A with
    | none => simp [h1] at h
    | some r =>
      obtain ⟨m, k⟩ := r
      simp only [h1, Option.some.injEq, Prod.mk.injEq] at h
      obtain ⟨rfl, rfl⟩ := h
      exact (view1_keys h1).1

theorem args_keys : ∀ {xs : List X} {m : List AV} {ks : List Nat}, e.args xs = some (m, ks) → KeysLive e ks
  | [], m, ks, h => by simp [Env.args] at h; obtain ⟨rfl, rfl⟩ := h; exact KeysLive.nil
  | x :: xs, m, ks, h => by
    simp only [Env.args] at h
    cases h1 : e.arg (e.get x) with
    | none => simp [h1] at h
    | some r =>
      obtain ⟨B, k1⟩ := r
      simp only [h1] at h
      cases h2 : e.args xs with
      | none => simp [h2] at h
      | some r =>
        obtain ⟨l', k2⟩ := r
        simp only [h2, Option.some.injEq, Prod.mk.injEq] at h
        obtain ⟨rfl, rfl⟩ := h
        exact (arg_keys h1).append (args_keys h2)

theorem elems_keys {A : AV} {l : List (List AV)} {ks : List Nat} (h : e.elems A = some (l, ks)) : KeysLive e ks := by
  cases A <;> simp only [Env.elems] at h <;> try (cases h; done)
  case own d g =>
    cases hk : e.ok? d g with
    | none => simp [hk] at h
    | some k =>
      cases k <;> simp [hk] at h
      obtain ⟨rfl, rfl⟩ := h
      exact KeysLive.one hk
  all_goals
    simp only [Option.some.injEq, Prod.mk.injEq] at h
    obtain ⟨rfl, rfl⟩ := h
    exact KeysLive.nil

theorem lits_keys {c : Nat} : ∀ {xs : List X} {l : List (List AV)} {ks : List Nat}, lits e c xs = some (l, ks) → KeysLive e ks
  | [], l, ks, h => by simp [lits] at h; obtain ⟨rfl, rfl⟩ := h; exact KeysLive.nil
  | x :: xs, l, ks, h => by
    simp only [lits] at h
    cases h1 : e.cells (e.get x) with
    | none => simp [h1] at h
    | some r =>
      obtain ⟨m, k1⟩ := r
      simp only [h1] at h
      by_cases hm : m.length = c
      case neg => rw [if_neg hm] at h; cases h
      rw [if_pos hm] at h
      cases h2 : lits e c xs with
      | none => simp [h2] at h
      | some r =>
        obtain ⟨l', k2⟩ := r
        simp only [h2, Option.some.injEq, Prod.mk.injEq] at h
        obtain ⟨rfl, rfl⟩ := h
        exact (cells_keys h1).1.append (lits_keys h2)

theorem splice_mem {z l : List AV} {off : Nat} {A : AV} (h : A ∈ splice z off l) : A ∈ z ∨ A ∈ l := by
  unfold splice at h
  rcases List.mem_append.1 h with h | h
  · rcases List.mem_append.1 h with h | h
    · exact .inl (List.mem_of_mem_take h)
    · exact .inr h
  · exact .inl (List.mem_of_mem_drop h)

theorem fill_keys : ∀ {ps : List (Nat × Nat × X)} {z m : List AV} {ks : List Nat}, fill e z ps = some (m, ks) → (∀ A ∈ z, A.pure = true) → KeysLive e ks ∧ ∀ A ∈ m, A.pure = true
  | [], z, m, ks, h, hz => by simp [fill] at h; obtain ⟨rfl, rfl⟩ := h; exact ⟨KeysLive.nil, hz⟩
  | (off, n, x) :: ps, z, m, ks, h, hz => by
    simp only [fill] at h
    cases h1 : e.cells (e.get x) with
    | none => simp [h1] at h
    | some r =>
      obtain ⟨l, k1⟩ := r
      simp only [h1] at h
      by_cases hm : l.length = n ∧ off + n ≤ z.length
      case neg => rw [if_neg hm] at h; cases h
      rw [if_pos hm] at h
      cases h2 : fill e (splice z off l) ps with
      | none => simp [h2] at h
      | some r =>
        obtain ⟨z', k2⟩ := r
        simp only [h2, Option.some.injEq, Prod.mk.injEq] at h
        obtain ⟨rfl, rfl⟩ := h
        obtain ⟨c1, c2⟩ := cells_keys h1
        obtain ⟨i1, i2⟩ := fill_keys h2 (fun A hA => by
          rcases splice_mem hA with hA | hA
          · exact hz A hA
          · exact c2 A hA)
        exact ⟨c1.append i1, i2⟩

def ResOk (e : Env) : Res → Prop
  | .val A => bddA e.q A
  | .mk k W => (match k with
    | .box l => ∀ A ∈ l, A.pure = true
    | .row .. => True
    | .dead => False) ∧ ∀ j l, W = some (j, l) → ∀ A ∈ l, A.pure = true

theorem flat_bdd {A : AV} (h : A.flat = true) : bddA e.q A := by
  cases A <;> simp [AV.flat] at h <;> try trivial
  exact fun B hB => pure_bdd1 (h B hB)

theorem getD_mem {l : List AV} {i : Nat} {A : AV} (h : l[i]? = some A) : A ∈ l := List.mem_of_getElem? h

theorem binA_pure {op : BinOp} {A B D : AV} (h : binA op A B = some D) : D.pure = true := by
  unfold binA at h
  split at h
  · cases op <;> simp only at h <;> (repeat' split at h) <;> cases h <;> rfl
  · cases op <;> simp only at h <;> (repeat' split at h) <;> cases h <;> rfl
  · cases h

theorem unA_pure {op : UnOp} {A D : AV} (h : unA op A = some D) : D.pure = true := by
  unfold unA at h
  split at h
  · cases op <;> simp only at h <;> cases h <;> rfl
  · cases op <;> simp only at h <;> cases h <;> rfl
  · cases h

theorem mnxA_pure {mx : Bool} {A B D : AV} (h : mnxA mx A B = some D) : D.pure = true := by
  unfold mnxA at h
  split at h
  · split at h
    · cases h; rfl
    · cases h
  · cases h

/-- What an operation gives, and the rows that it wants to be read only from now on. -/
theorem act_ok (hb : Bdd e.q e) (hb1 : e.box1) {o : O} (hc : o.okc = true) {r : Res} {ks : List Nat} (h : act R e o = some (r, ks)) : KeysLive e ks ∧ ResOk e r := by
  have val : ∀ {A : AV}, some (Res.val A, ([] : List Nat)) = some (r, ks) → bddA e.q A → KeysLive e ks ∧ ResOk e r := by
    intro A hh hA
    simp only [Option.some.injEq, Prod.mk.injEq] at hh
    obtain ⟨rfl, rfl⟩ := hh
    exact ⟨KeysLive.nil, hA⟩
  have vals : ∀ {A : AV} {k : List Nat}, some (Res.val A, k) = some (r, ks) → bddA e.q A → KeysLive e k → KeysLive e ks ∧ ResOk e r := by
    intro A k hh hA hk
    simp only [Option.some.injEq, Prod.mk.injEq] at hh
    obtain ⟨rfl, rfl⟩ := hh
    exact ⟨hk, hA⟩
  have mks : ∀ {K : OK} {W : Option (Nat × List AV)} {k : List Nat}, some (Res.mk K W, k) = some (r, ks) → ResOk e (.mk K W) → KeysLive e k → KeysLive e ks ∧ ResOk e r := by
    intro K W k hh hA hk
    simp only [Option.some.injEq, Prod.mk.injEq] at hh
    obtain ⟨rfl, rfl⟩ := hh
    exact ⟨hk, hA⟩
  cases o <;> simp only [O.okc, Bool.and_eq_true] at hc <;> simp only [act] at h <;> try (cases h; done)
  case mv x => exact val h (get_bdd hb hc)
  case pick c a b =>
    cases hg : e.get c <;> simp only [hg] at h <;> try (cases h; done)
    rename_i v
    cases v
    · exact val h (get_bdd hb hc.2.2)
    · exact val h (get_bdd hb hc.2.1)
  case box T x =>
    cases h1 : e.cells (e.get x) with
    | none => simp [h1] at h
    | some q =>
      obtain ⟨l, k⟩ := q
      simp only [h1] at h
      exact mks h ⟨(cells_keys h1).2, fun _ _ hh => by cases hh⟩ (cells_keys h1).1
  case new T z => exact mks h ⟨fun A hA => List.all_eq_true.1 hc A hA, fun _ _ hh => by cases hh⟩ KeysLive.nil
  case bld z ps =>
    cases h1 : fill e z ps with
    | none => simp [h1] at h
    | some q =>
      obtain ⟨l, k⟩ := q
      simp only [h1] at h
      obtain ⟨f1, f2⟩ := fill_keys h1 (fun A hA => List.all_eq_true.1 hc.1 A hA)
      exact vals h (fun A hA => pure_bdd1 (f2 A hA)) f1
  case lit E c xs =>
    cases h1 : lits e c xs with
    | none => simp [h1] at h
    | some q =>
      obtain ⟨l, k⟩ := q
      simp only [h1] at h
      exact vals h trivial (lits_keys h1)
  case ld n x =>
    have hg := get_bdd hb hc
    cases n with
    | none =>
      simp only [act] at h
      cases hx : e.get x <;> simp only [hx] at h <;> try (cases h; done)
      case ptr d g off =>
        cases hk : e.ok? d g with
        | none => simp [hk] at h
        | some k =>
          cases k <;> simp only [hk] at h <;> try (cases h; done)
          rename_i l
          cases hl : l[off]? with
          | none => simp [hl] at h
          | some A =>
            simp only [hl, Option.map_some] at h
            have h1 := hb.box d g l hk A (getD_mem hl)
            have h2 := hb1 d g l hk A (getD_mem hl)
            refine val h ?_
            cases A <;> first | exact h1 | trivial | (simp [AV.cell1] at h2)
      case rp d g i j =>
        cases hk : e.ok? d g with
        | none => simp [hk] at h
        | some k =>
          cases k <;> simp only [hk] at h <;> try (cases h; done)
          rename_i E c f l
          cases hl : (l.getD i [])[j]? with
          | none => simp only [hl] at h; cases h
          | some A =>
            simp only [hl] at h
            by_cases hpu : A.pure = true
            case neg => rw [if_neg hpu] at h; cases h
            rw [if_pos hpu] at h
            exact val h (pure_bddA hpu)
      case el l =>
        cases hl : l[0]? with
        | none => simp [hl] at h
        | some A =>
          simp only [hl] at h
          by_cases hpu : A.pure = true
          case neg => rw [if_neg hpu] at h; cases h
          rw [if_pos hpu] at h
          exact val h (pure_bddA hpu)
    | some n =>
      simp only [act] at h
      cases hx : e.get x <;> simp only [hx] at h <;> try (cases h; done)
      case ptr d g off =>
        cases hk : e.ok? d g with
        | none => simp [hk] at h
        | some k =>
          cases k <;> simp only [hk] at h <;> try (cases h; done)
          rename_i l
          by_cases hbb : off + n ≤ l.length
          case neg => rw [if_neg hbb] at h; cases h
          rw [if_pos hbb] at h
          cases hv : e.views ((l.drop off).take n) with
          | none => simp [hv] at h
          | some q =>
            obtain ⟨m, k⟩ := q
            simp only [hv] at h
            obtain ⟨f1, f2⟩ := views_keys hv
            exact vals h (fun A hA => pure_bdd1 (f2 A hA)) f1
      case rp d g i j =>
        cases hk : e.ok? d g with
        | none => simp [hk] at h
        | some k =>
          cases k <;> simp only [hk] at h <;> try (cases h; done)
          rename_i E c f l
          by_cases hbb : j + n ≤ (l.getD i []).length ∧ (((l.getD i []).drop j).take n).all AV.pure = true
          case neg => rw [if_neg hbb] at h; cases h
          rw [if_pos hbb] at h
          exact val h (fun A hA => pure_bdd1 (List.all_eq_true.1 hbb.2 A hA))
      case el l =>
        by_cases hbb : n ≤ l.length ∧ (l.take n).all AV.pure = true
        case neg => rw [if_neg hbb] at h; cases h
        rw [if_pos hbb] at h
        exact val h (fun A hA => pure_bdd1 (List.all_eq_true.1 hbb.2 A hA))
  case fa off n x =>
    have hg := get_bdd hb hc
    cases hx : e.get x <;> simp only [hx] at h <;> try (cases h; done)
    case ptr d g o =>
      rw [hx] at hg
      cases hk : e.ok? d g with
      | none => simp [hk] at h
      | some k =>
        cases k <;> simp only [hk] at h <;> try (cases h; done)
        exact val h hg
    case rp d g i j =>
      rw [hx] at hg
      cases hk : e.ok? d g with
      | none => simp [hk] at h
      | some k =>
        cases k <;> simp only [hk] at h <;> try (cases h; done)
        exact val h hg
    case el l =>
      exact val h trivial
  case nck x =>
    have hg := get_bdd hb hc
    cases hx : e.get x <;> simp only [hx] at h <;> try (cases h; done)
    case ptr d g o =>
      rw [hx] at hg
      cases hk : e.ok? d g with
      | none => simp [hk] at h
      | some k =>
        cases k <;> simp only [hk] at h <;> try (cases h; done)
        exact val h hg
    case rp d g i j =>
      rw [hx] at hg
      cases hk : e.ok? d g with
      | none => simp [hk] at h
      | some k =>
        cases k <;> simp only [hk] at h <;> try (cases h; done)
        exact val h hg
    case el l =>
      rw [hx] at hg
      exact val h hg
  case ia c x i =>
    have hg := get_bdd hb hc.1
    cases hi : e.get i <;> simp only [hi] at h <;> try (cases h; done)
    rename_i k n
    cases hx : e.get x <;> simp only [hx] at h <;> try (cases h; done)
    case sl l =>
      rw [hx] at hg
      by_cases hbb : 0 ≤ n ∧ n < (l.length : Int)
      case neg => rw [if_neg hbb] at h; cases h
      rw [if_pos hbb] at h
      by_cases hcc : (l.getD n.toNat []).length = c
      case neg => rw [if_neg hcc] at h; cases h
      rw [if_pos hcc] at h
      exact val h trivial
    case own d g =>
      rw [hx] at hg
      cases hk : e.ok? d g with
      | none => simp [hk] at h
      | some k =>
        cases k <;> simp only [hk] at h <;> try (cases h; done)
        rename_i E c' f l
        by_cases hbb : 0 ≤ n ∧ n < (l.length : Int) ∧ c' = c
        case neg => rw [if_neg hbb] at h; cases h
        rw [if_pos hbb] at h
        exact val h hg
  case lkp x i =>
    cases hx : e.get x <;> simp only [hx] at h <;> try (cases h; done)
    cases hi : e.get i <;> simp only [hi] at h <;> try (cases h; done)
    exact val h trivial
  case ix x i =>
    cases hx : e.get x <;> simp only [hx] at h <;> try (cases h; done)
    cases hi : e.get i <;> simp only [hi] at h <;> try (cases h; done)
    split at h
    · exact val h trivial
    · cases h
  case subs x lo hi =>
    cases hx : e.get x <;> simp only [hx] at h <;> try (cases h; done)
    split at h
    · split at h
      · exact val h trivial
      · cases h
    · cases h
  case sub c x lo hi =>
    cases h1 : e.elems (e.get x) with
    | none => simp [h1] at h
    | some q =>
      obtain ⟨m, k⟩ := q
      simp only [h1] at h
      split at h
      · split at h
        · exact vals h trivial (elems_keys h1)
        · cases h
      · cases h
  case cpy E c by_ x =>
    cases h1 : e.elems (e.get x) with
    | none => simp [h1] at h
    | some q =>
      obtain ⟨m, k⟩ := q
      simp only [h1] at h
      split at h
      · exact mks h ⟨trivial, fun _ _ hh => by cases hh⟩ (elems_keys h1)
      · cases h
  case mk E c by_ z n =>
    cases hx : e.get n <;> simp only [hx] at h <;> try (cases h; done)
    split at h
    · exact mks h ⟨trivial, fun _ _ hh => by cases hh⟩ KeysLive.nil
    · cases h
  case bin op x y =>
    cases h1 : binA op (e.get x) (e.get y) with
    | none => simp [h1] at h
    | some D => simp only [h1] at h; exact val h (pure_bddA (binA_pure h1))
  case beq ne x y =>
    cases hx : e.get x <;> simp only [hx] at h <;> try (cases h; done)
    cases hi : e.get y <;> simp only [hi] at h <;> try (cases h; done)
    exact val h trivial
  case eqs ne n x y =>
    cases hx : e.get x <;> simp only [hx] at h <;> try (cases h; done)
    cases hi : e.get y <;> simp only [hi] at h <;> try (cases h; done)
    split at h
    · exact val h trivial
    · cases h
  case un op x =>
    cases h1 : unA op (e.get x) with
    | none => simp [h1] at h
    | some D => simp only [h1] at h; exact val h (pure_bddA (unA_pure h1))
  case cvi k x =>
    cases hx : e.get x <;> simp only [hx] at h <;> try (cases h; done)
    exact val h trivial
  case cvs x =>
    cases hx : e.get x <;> simp only [hx] at h <;> try (cases h; done)
    exact val h trivial
  case cvsb x =>
    cases hx : e.get x <;> simp only [hx] at h <;> try (cases h; done)
    split at h
    · exact val h trivial
    · cases h
  case cvbs x =>
    cases h1 : e.elems (e.get x) with
    | none => simp [h1] at h
    | some q =>
      obtain ⟨m, k⟩ := q
      simp only [h1] at h
      split at h
      · exact val h trivial
      · cases h
  case lens x =>
    cases hx : e.get x <;> simp only [hx] at h <;> try (cases h; done)
    exact val h trivial
  case len x =>
    cases h1 : e.elems (e.get x) with
    | none => simp [h1] at h
    | some q =>
      obtain ⟨m, k⟩ := q
      simp only [h1] at h
      exact val h trivial
  case mnx mx x y =>
    cases h1 : mnxA mx (e.get x) (e.get y) with
    | none => simp [h1] at h
    | some D => simp only [h1] at h; exact val h (pure_bddA (mnxA_pure h1))
  case ext x i =>
    have hg := get_bdd hb hc
    cases hx : e.get x <;> simp only [hx] at h <;> try (cases h; done)
    rename_i l
    rw [hx] at hg
    cases hl : l[i]? with
    | none => simp [hl] at h
    | some A =>
      simp only [hl] at h
      by_cases hpu : A.flat = true
      case neg => rw [if_neg hpu] at h; cases h
      rw [if_pos hpu] at h
      exact val h (flat_bdd hpu)
  case call f xs =>
    cases h1 : e.args xs with
    | none => simp [h1] at h
    | some q =>
      obtain ⟨as, k⟩ := q
      simp only [h1] at h
      cases hr : R f as with
      | none => simp [hr] at h
      | some A =>
        by_cases hfr : ∃ E c l, A = .fr E c l
        · obtain ⟨E, c, l, rfl⟩ := hfr
          simp only [hr] at h
          exact mks h ⟨trivial, fun _ _ hh => by cases hh⟩ (args_keys h1)
        · by_cases hfr1 : ∃ j E c m l, A = .fr1 j E c m l
          · obtain ⟨j, E, c, m, l, rfl⟩ := hfr1
            simp only [hr] at h
            by_cases hjl : j < l.length ∧ l.all AV.pure = true
            case neg => rw [if_neg hjl] at h; cases h
            rw [if_pos hjl] at h
            exact mks h ⟨trivial, fun _ _ hh => by cases hh; exact fun A hA => List.all_eq_true.1 hjl.2 A hA⟩ (args_keys h1)
          by_cases hnr : A.noRef = true
          · have h' : some (Res.val A, k) = some (r, ks) := by
              cases A <;> first | (simp only [hr, hnr, if_true] at h; exact h) | exact absurd ⟨_, _, _, rfl⟩ hfr | exact absurd ⟨_, _, _, _, _, rfl⟩ hfr1
            refine vals h' ?_ (args_keys h1)
            cases A <;> first | trivial | exact flat_bdd hnr
          · cases A <;> first | (simp only [hr, hnr, if_false] at h; cases h; done) | exact absurd ⟨_, _, _, rfl⟩ hfr | exact absurd ⟨_, _, _, _, _, rfl⟩ hfr1 | exact absurd ⟨_, _, _, _, _, rfl⟩ hfr1
  case bldo z ps j x =>
    have hg := get_bdd hb hc.1
    cases hx : e.get x <;> simp only [hx] at h hg <;> try (cases h; done)
    rename_i d g
    cases hk : e.ok? d g with
    | none => simp [hk] at h
    | some k =>
      cases k <;> simp only [hk] at h <;> try (cases h; done)
      cases hf : fill e z ps with
      | none => simp [hf] at h
      | some q =>
        obtain ⟨l, k⟩ := q
        simp only [hf] at h
        split at h
        · cases h
        · split at h
          · obtain ⟨c1, c2⟩ := fill_keys hf (fun A hA => List.all_eq_true.1 hc.2.1 A hA)
            exact vals h ⟨hg, fun A hA => pure_bdd1 (c2 A hA)⟩ c1
          · cases h
  case clo f xs =>
    cases h1 : e.args xs with
    | none => simp [h1] at h
    | some q =>
      obtain ⟨as, k⟩ := q
      simp only [h1] at h
      exact vals h trivial (args_keys h1)
  case calld x xs =>
    cases hx : e.get x <;> simp only [hx] at h <;> try (cases h; done)
    rename_i f l0
    cases h1 : e.args xs with
    | none => simp [h1] at h
    | some q =>
      obtain ⟨as, k⟩ := q
      simp only [h1] at h
      cases hr : R f (as ++ l0) with
      | none => simp [hr] at h
      | some A =>
        by_cases hfr : ∃ E c l, A = .fr E c l
        · obtain ⟨E, c, l, rfl⟩ := hfr
          simp only [hr] at h
          exact mks h ⟨trivial, fun _ _ hh => by cases hh⟩ (args_keys h1)
        · by_cases hfr1 : ∃ j E c m l, A = .fr1 j E c m l
          · obtain ⟨j, E, c, m, l, rfl⟩ := hfr1
            simp only [hr] at h
            by_cases hjl : j < l.length ∧ l.all AV.pure = true
            case neg => rw [if_neg hjl] at h; cases h
            rw [if_pos hjl] at h
            exact mks h ⟨trivial, fun _ _ hh => by cases hh; exact fun A hA => List.all_eq_true.1 hjl.2 A hA⟩ (args_keys h1)
          by_cases hnr : A.noRef = true
          · have h' : some (Res.val A, k) = some (r, ks) := by
              cases A <;> first | (simp only [hr, hnr, if_true] at h; exact h) | exact absurd ⟨_, _, _, rfl⟩ hfr | exact absurd ⟨_, _, _, _, _, rfl⟩ hfr1
            refine vals h' ?_ (args_keys h1)
            cases A <;> first | trivial | exact flat_bdd hnr
          · cases A <;> first | (simp only [hr, hnr, if_false] at h; cases h; done) | exact absurd ⟨_, _, _, rfl⟩ hfr | exact absurd ⟨_, _, _, _, _, rfl⟩ hfr1 | exact absurd ⟨_, _, _, _, _, rfl⟩ hfr1

end
end Go.Bv

/- BY VALUE, part 10: two operations that stand apart give the same in either order. -/
set_option linter.unusedVariables false
set_option linter.unusedSimpArgs false
namespace Go.Bv

section
variable {R : Nat → List AV → Option AV} {e e1 e2 e' : Env}

theorem AObj.freeze_freeze (o : AObj) : o.freeze.freeze = o.freeze := by
  cases o with
  | mk g k => cases k <;> rfl

theorem freeze_at : ∀ (ks : List Nat) (e : Env) (i : Nat), (e.freeze ks).objs[i]? = if i ∈ ks then (e.objs[i]?).map AObj.freeze else e.objs[i]?
  | [], e, i => by simp [Env.freeze_nil]
  | d :: ks, e, i => by
    rw [Env.freeze_cons, freeze_at ks (e.freeze1 d) i]
    simp only [Env.freeze1, List.getElem?_modify, List.mem_cons]
    by_cases h1 : d = i
    · subst h1
      simp only [if_true, true_or]
      cases e.objs[d]? with
      | none => simp
      | some o => by_cases h2 : d ∈ ks <;> simp [h2, AObj.freeze_freeze]
    · have h1' : ¬ i = d := fun h => h1 h.symm
      simp only [h1, if_false, h1', false_or]
      cases e.objs[i]? <;> simp

theorem freeze_tmps (ks : List Nat) (e : Env) : (e.freeze ks).tmps = e.tmps := rfl
theorem freeze_len (ks : List Nat) (e : Env) : (e.freeze ks).objs.length = e.objs.length := by
  induction ks generalizing e with
  | nil => rfl
  | cons d ks ih => rw [Env.freeze_cons, ih]; simp [Env.freeze1]
theorem freeze_gen (ks : List Nat) (e : Env) (d : Nat) : (e.freeze ks).gen d = e.gen d := by
  unfold Env.gen
  rw [freeze_at]
  by_cases h : d ∈ ks
  · simp only [h, if_true]
    cases e.objs[d]? with
    | none => rfl
    | some o => simp [AObj.freeze_eq]
  · simp [h]

theorem Env.ext2 {e e' : Env} (h1 : e.tmps = e'.tmps) (h2 : ∀ i : Nat, e.objs[i]? = e'.objs[i]?) : e = e' := by
  cases e; cases e'
  simp only at h1 h2
  subst h1
  congr 1
  exact List.ext_getElem? h2

def frzAt (e : Env) (ks : List Nat) (i : Nat) : Option AObj := if i ∈ ks then (e.objs[i]?).map AObj.freeze else e.objs[i]?

/-- What an operation that doesn't write turns. -/
inductive Spec (e : Env) (ks : List Nat) : Option Nat → Res → Env → Prop where
  | val (dst : Option Nat) (A : AV) (e1 : Env) (ht : e1.tmps = (e.put dst A).tmps) (ho : ∀ i : Nat, e1.objs[i]? = frzAt e ks i) : Spec e ks dst (.val A) e1
  | mk (d : Nat) (k : OK) (W : Option (Nat × List AV)) (e1 : Env) (hd : d < e.objs.length) (ht : e1.tmps = e.tmps.set d (k.refW W d (e.gen d + 1)))
      (ho : ∀ i : Nat, e1.objs[i]? = if d = i then some ⟨e.gen d + 1, k⟩ else frzAt e ks i) : Spec e ks (some d) (.mk k W) e1

theorem spec_of {ks : List Nat} {dst : Option Nat} {r : Res} (h : applyRes (e.freeze ks) dst r = some e1) : Spec e ks dst r e1 := by
  cases r with
  | val A =>
    simp only [applyRes, Option.some.injEq] at h
    subst h
    refine .val dst A _ ?_ (fun i => ?_)
    · cases dst <;> rfl
    · rw [Env.put_objs]; exact freeze_at ks e i
  | mk k W =>
    cases dst with
    | none => simp [applyRes] at h
    | some d =>
      simp only [applyRes] at h
      by_cases hd : d < (e.freeze ks).objs.length
      case neg => rw [if_neg hd] at h; cases h
      rw [if_pos hd] at h
      simp only [Option.some.injEq] at h
      subst h
      rw [freeze_len] at hd
      refine .mk d k W _ hd ?_ (fun i => ?_)
      · simp only [Env.put, Env.setObj, freeze_gen]; rfl
      · rw [Env.put_objs]
        simp only [Env.setObj, List.getElem?_set, freeze_len, hd, freeze_gen]
        by_cases hi : d = i
        · simp [hi]
        · simp only [hi, if_false]; exact freeze_at ks e i

theorem spec_put {ks : List Nat} {dst : Option Nat} {A : AV} : applyRes (e.freeze ks) dst (.val A) = some ((e.freeze ks).put dst A) := rfl

theorem spec_mk {ks : List Nat} {d : Nat} {k : OK} {W : Option (Nat × List AV)} (hd : d < e.objs.length) : ∃ e1, applyRes (e.freeze ks) (some d) (.mk k W) = some e1 := by
  simp only [applyRes, freeze_len, hd, if_true]
  exact ⟨_, rfl⟩

theorem spec_ex {ks ks' : List Nat} {dst : Option Nat} {r : Res} {e0 : Env} (h : Spec e0 ks' dst r e1) (hl : e0.objs.length = e.objs.length) : ∃ e', applyRes (e.freeze ks) dst r = some e' := by
  cases h with
  | val => exact ⟨_, rfl⟩
  | mk d k W _ hd => exact spec_mk (by rw [← hl]; exact hd)

theorem spec_len {ks : List Nat} {dst : Option Nat} {r : Res} (h : Spec e ks dst r e1) : e1.objs.length = e.objs.length := by
  have key : ∀ i : Nat, (e1.objs[i]?).isSome = (e.objs[i]?).isSome := by
    intro i
    cases h with
    | val _ A _ ht ho => rw [ho]; unfold frzAt; split <;> simp
    | mk d k W _ hd ht ho =>
      rw [ho]
      by_cases hi : d = i
      · subst hi; simp [List.getElem?_eq_getElem hd]
      · rw [if_neg hi]; unfold frzAt; split <;> simp
  rcases Nat.lt_trichotomy e1.objs.length e.objs.length with hh | hh | hh
  · have := key e1.objs.length; simp [hh] at this
  · exact hh
  · have := key e.objs.length; simp [hh] at this

theorem spec_eq {ks : List Nat} {dst : Option Nat} {r : Res} (h1 : Spec e ks dst r e1) (h2 : Spec e ks dst r e2) : e1 = e2 := by
  cases h1 with
  | val _ A _ ht ho => cases h2 with
    | val _ _ _ ht' ho' => exact Env.ext2 (by rw [ht, ht']) (fun i => by rw [ho, ho'])
  | mk d k W _ hd ht ho => cases h2 with
    | mk _ _ _ _ _ ht' ho' => exact Env.ext2 (by rw [ht, ht']) (fun i => by rw [ho, ho'])

def Res.made (r : Res) (e : Env) (dst : Option Nat) : Prop := ∀ k W d, r = .mk k W → dst = some d → e.kind d = .dead

theorem gen_at {i : Nat} (h : e1.objs[i]? = e.objs[i]?) : e1.gen i = e.gen i := by unfold Env.gen; rw [h]

theorem kind_none {i : Nat} (h : e.objs[i]? = none) : e.kind i = .dead := by unfold Env.kind; rw [h]
theorem live_key {ks : List Nat} (h : KeysLive e ks) {d : Nat} (hd : e.kind d = .dead) : d ∉ ks := fun hk => by
  obtain ⟨E, c, f, l, h⟩ := h d hk
  rw [hd] at h; cases h

theorem frzAt_gen {ks : List Nat} {i : Nat} (h : e1.objs[i]? = frzAt e ks i) : e1.gen i = e.gen i := by
  unfold Env.gen
  rw [h]
  unfold frzAt
  by_cases hi : i ∈ ks
  · rw [if_pos hi]
    cases e.objs[i]? with
    | none => rfl
    | some o => simp [AObj.freeze_eq]
  · rw [if_neg hi]

/-- The two effects, one behind the other. -/
theorem eff_swap {ka kb : List Nat} {da db : Option Nat} {ra rb : Res} (h1 : applyRes (e.freeze ka) da ra = some e1) (h2 : applyRes (e1.freeze kb) db rb = some e2)
    (hne : ∀ d, da = some d → db ≠ some d) (hda : ra.made e da) (hdb : rb.made e db) (hka : KeysLive e ka) (hkb : KeysLive e kb) :
    ∃ e1', applyRes (e.freeze kb) db rb = some e1' ∧ applyRes (e1'.freeze ka) da ra = some e2 := by
  have s1 := spec_of h1
  have s2 := spec_of h2
  have l1 := spec_len s1
  obtain ⟨e1', h3⟩ := spec_ex (ks := kb) s2 l1
  have s3 := spec_of h3
  have l3 := spec_len s3
  obtain ⟨e2', h4⟩ := spec_ex (ks := ka) s1 l3.symm
  have s4 := spec_of h4
  refine ⟨e1', h3, ?_⟩
  rw [h4]
  congr 1
  have frz2 : ∀ i : Nat, (if i ∈ kb then ((if i ∈ ka then (e.objs[i]?).map AObj.freeze else e.objs[i]?)).map AObj.freeze else (if i ∈ ka then (e.objs[i]?).map AObj.freeze else e.objs[i]?)) =
      (if i ∈ ka then ((if i ∈ kb then (e.objs[i]?).map AObj.freeze else e.objs[i]?)).map AObj.freeze else (if i ∈ kb then (e.objs[i]?).map AObj.freeze else e.objs[i]?)) := by
    intro i
    by_cases p : i ∈ ka <;> by_cases q : i ∈ kb <;> simp [p, q]
  cases s1 with
  | val _ A _ ht1 ho1 =>
    cases s2 with
    | val _ B _ ht2 ho2 =>
      cases s3 with
      | val _ _ _ ht3 ho3 =>
      cases s4 with
      | val _ _ _ ht4 ho4 =>
      refine Env.ext2 ?_ (fun i => ?_)
      · rw [ht4, ht2]
        cases da with
        | none => cases db <;> simp [Env.put, ht1, ht3]
        | some d => cases db with
          | none => simp [Env.put, ht1, ht3]
          | some d' =>
            simp only [Env.put, ht1, ht3]
            rw [List.set_comm]
            exact fun h => hne d rfl (by rw [h])
      · rw [ho4, ho2]
        simp only [frzAt, ho1, ho3]
        exact (frz2 i).symm
    | mk d' k' W' _ hd2 ht2 ho2 =>
      cases s3 with
      | mk _ _ _ _ hd3 ht3 ho3 =>
      cases s4 with
      | val _ _ _ ht4 ho4 =>
      have dead := hdb k' W' d' rfl rfl
      have hg : e1.gen d' = e.gen d' := frzAt_gen (ho1 d')
      refine Env.ext2 ?_ (fun i => ?_)
      · rw [ht4, ht2, hg]
        cases da with
        | none => simp [Env.put, ht1, ht3]
        | some d =>
          simp only [Env.put, ht1, ht3]
          rw [List.set_comm]
          exact fun h => hne d rfl (by rw [h])
      · rw [ho4, ho2]
        by_cases hi : d' = i
        · subst hi
          simp only [frzAt, if_neg (live_key hka dead), ho3, if_true, hg]
        · simp only [frzAt, if_neg hi, ho1, ho3]
          exact (frz2 i).symm
  | mk d k W _ hd1 ht1 ho1 =>
    have deada := hda k W d rfl rfl
    cases s2 with
    | val _ B _ ht2 ho2 =>
      cases s3 with
      | val _ _ _ ht3 ho3 =>
      cases s4 with
      | mk _ _ _ _ hd4 ht4 ho4 =>
      have hg : e1'.gen d = e.gen d := frzAt_gen (ho3 d)
      refine Env.ext2 ?_ (fun i => ?_)
      · rw [ht4, ht2, hg]
        cases db with
        | none => simp [Env.put, ht1, ht3]
        | some d' =>
          simp only [Env.put, ht1, ht3]
          rw [List.set_comm]
          exact fun h => hne d rfl (by rw [h])
      · rw [ho4, ho2]
        by_cases hi : d = i
        · subst hi
          simp only [frzAt, if_neg (live_key hkb deada), ho1, if_true, hg]
        · simp only [frzAt, if_neg hi, ho1, ho3]
          exact (frz2 i).symm
    | mk d' k' W' _ hd2 ht2 ho2 =>
      cases s3 with
      | mk _ _ _ _ hd3 ht3 ho3 =>
      cases s4 with
      | mk _ _ _ _ hd4 ht4 ho4 =>
      have deadb := hdb k' W' d' rfl rfl
      have hdd : ¬ d = d' := fun h => hne d rfl (by rw [h])
      have hdd' : ¬ d' = d := fun h => hdd h.symm
      have hg : e1'.gen d = e.gen d := frzAt_gen (ks := kb) (by rw [ho3 d, if_neg hdd'])
      have hg' : e1.gen d' = e.gen d' := frzAt_gen (ks := ka) (by rw [ho1 d', if_neg hdd])
      refine Env.ext2 ?_ (fun i => ?_)
      · rw [ht4, ht2, hg, hg', ht1, ht3, List.set_comm _ _ hdd]
      · rw [ho4, ho2]
        by_cases hi : d = i
        · subst hi
          simp only [frzAt, if_neg (live_key hkb deada), ho1, if_true, hg, if_neg hdd']
        · by_cases hi' : d' = i
          · subst hi'
            simp only [frzAt, if_neg (live_key hka deadb), ho3, if_true, hg', if_neg hdd]
          · simp only [frzAt, if_neg hi, if_neg hi', ho1, ho3]
            exact (frz2 i).symm

/-! ### What is seen behind an effect -/
theorem cont_kind (e : Env) (d g : Nat) : e.cont d g = if d < e.objs.length ∧ e.gen d = g then (e.kind d).cont else none := by
  unfold Env.cont
  by_cases hd : d < e.objs.length
  · by_cases hg : e.gen d = g
    · rw [Env.ok?_of hd hg, if_pos ⟨hd, hg⟩]; rfl
    · rw [if_neg (fun h => hg h.2)]
      unfold Env.ok?
      unfold Env.gen at hg
      rw [List.getElem?_eq_getElem hd] at hg ⊢
      simp only at hg ⊢
      rw [if_neg hg]; rfl
  · rw [if_neg (fun h => hd h.1)]
    unfold Env.ok?
    rw [List.getElem?_eq_none (Nat.le_of_not_lt hd)]; rfl

theorem frzAt_cont {ks : List Nat} {i : Nat} (h : e1.objs[i]? = frzAt e ks i) : (e1.kind i).cont = (e.kind i).cont := by
  unfold Env.kind
  rw [h]
  unfold frzAt
  by_cases hi : i ∈ ks
  · rw [if_pos hi]
    cases e.objs[i]? with
    | none => rfl
    | some o =>
      simp only [Option.map_some, AObj.freeze_eq]
      cases o.k <;> rfl
  · rw [if_neg hi]

theorem spec_sees {ks : List Nat} {dst : Option Nat} {r : Res} (h : Spec e ks dst r e1) (hd : r.made e dst) : Sees e.q e e1 := by
  have hl := spec_len h
  refine ⟨fun d g hg => ?_⟩
  rw [cont_kind, cont_kind, hl]
  cases h with
  | val _ A _ ht ho => rw [frzAt_gen (ho d), frzAt_cont (ho d)]
  | mk d' k W _ hd' ht ho =>
    by_cases hi : d' = d
    · subst hi
      have h1 : e1.gen d' = e.gen d' + 1 := by unfold Env.gen; rw [ho, if_pos rfl]; rfl
      have h2 : ¬ (d' < e.objs.length ∧ e1.gen d' = g) := fun hh => by
        have : g ≤ e.gen d' := hg
        omega
      rw [if_neg h2, hd k W d' rfl rfl]
      simp [OK.cont]
    · have ho' := ho d
      rw [if_neg hi] at ho'
      rw [frzAt_gen ho', frzAt_cont ho']

theorem spec_gen {ks : List Nat} {dst : Option Nat} {r : Res} (h : Spec e ks dst r e1) (d : Nat) : e.gen d ≤ e1.gen d := by
  cases h with
  | val _ A _ ht ho => rw [frzAt_gen (ho d)]; exact Nat.le_refl _
  | mk d' k W _ hd' ht ho =>
    by_cases hi : d' = d
    · subst hi
      have h1 : e1.gen d' = e.gen d' + 1 := by unfold Env.gen; rw [ho, if_pos rfl]; rfl
      omega
    · have ho' := ho d
      rw [if_neg hi] at ho'
      rw [frzAt_gen ho']; exact Nat.le_refl _

theorem frzAt_dead {ks : List Nat} {i : Nat} (h : e1.objs[i]? = frzAt e ks i) (hd : e.kind i = .dead) : e1.kind i = .dead := by
  have := frzAt_cont h
  rw [hd] at this
  cases hk : e1.kind i with
  | dead => rfl
  | box l => rw [hk] at this; cases this
  | row E c f l => rw [hk] at this; cases this

theorem spec_dead {ks : List Nat} {dst : Option Nat} {r : Res} (h : Spec e ks dst r e1) {d : Nat} (hne : dst ≠ some d) (hd : e.kind d = .dead) : e1.kind d = .dead := by
  cases h with
  | val _ A _ ht ho => exact frzAt_dead (ho d) hd
  | mk d' k W _ hd' ht ho =>
    have hi : ¬ d' = d := fun h => hne (by rw [h])
    have ho' := ho d
    rw [if_neg hi] at ho'
    exact frzAt_dead ho' hd

theorem bdd1_mono {q q' : Nat → Nat → Prop} (h : ∀ d g, q d g → q' d g) {A : AV} (hA : bdd1 q A) : bdd1 q' A := by
  cases A <;> first | trivial | exact h _ _ hA
theorem bddA_mono {q q' : Nat → Nat → Prop} (h : ∀ d g, q d g → q' d g) {A : AV} (hA : bddA q A) : bddA q' A := by
  cases A <;> first | trivial | exact h _ _ hA | exact fun B hB => bdd1_mono h (hA B hB) | exact ⟨h _ _ hA.1, fun B hB => bdd1_mono h (hA.2 B hB)⟩

theorem cont_box {d g : Nat} {l : List AV} : e.ok? d g = some (.box l) ↔ e.cont d g = some (.box l) := by
  unfold Env.cont
  cases e.ok? d g with
  | none => simp
  | some k => cases k <;> simp [OK.cont]

/-- What such an operation leaves is bounded again. -/
theorem spec_bdd {ks : List Nat} {dst : Option Nat} {r : Res} (h : Spec e ks dst r e1) (hb : Bdd e.q e) (hb1 : e.box1) (hr : ResOk e r) : Bdd e1.q e1 ∧ e1.box1 := by
  have hq : ∀ d g, e.q d g → e1.q d g := fun d g hh => Nat.le_trans hh (spec_gen h d)
  have hl := spec_len h
  have ht : ∀ t, bddA e1.q (e1.tmps.getD t .unk) := by
    intro t
    cases h with
    | val _ A _ ht ho =>
      rw [ht]
      cases dst with
      | none => exact bddA_mono hq (hb.tmps t)
      | some d =>
        simp only [Env.put]
        by_cases hdt : d = t
        · subst hdt
          rcases Nat.lt_or_ge d e.tmps.length with hlt | hge
          · rw [getD_set_eq _ _ _ _ hlt]; exact bddA_mono hq hr
          · rw [List.getD_eq_getElem?_getD, List.getElem?_eq_none (by simpa using hge)]; exact trivial
        · rw [getD_set_ne' _ _ _ _ _ hdt]; exact bddA_mono hq (hb.tmps t)
    | mk d k W _ hd ht ho =>
      rw [ht]
      by_cases hdt : d = t
      · subst hdt
        have h1 : e1.gen d = e.gen d + 1 := by unfold Env.gen; rw [ho, if_pos rfl]; rfl
        rcases Nat.lt_or_ge d e.tmps.length with hlt | hge
        · rw [getD_set_eq _ _ _ _ hlt]
          have hq1 : e.gen d + 1 ≤ e1.gen d := by omega
          cases W with
          | none => cases k <;> exact hq1
          | some p =>
            obtain ⟨j, l⟩ := p
            exact ⟨hq1, fun A hA => pure_bdd1 (hr.2 j l rfl A hA)⟩
        · rw [List.getD_eq_getElem?_getD, List.getElem?_eq_none (by simpa using hge)]; exact trivial
      · rw [getD_set_ne' _ _ _ _ _ hdt]; exact bddA_mono hq (hb.tmps t)
  have hbox : ∀ d g l, e1.ok? d g = some (.box l) → ∀ A ∈ l, bdd1 e1.q A ∧ A.cell1 = true := by
    intro d g l hk A hA
    have old : e.ok? d g = some (.box l) → bdd1 e1.q A ∧ A.cell1 = true := fun hh => ⟨bdd1_mono hq (hb.box d g l hh A hA), hb1 d g l hh A hA⟩
    rw [cont_box, cont_kind, hl] at hk
    cases h with
    | val _ B _ ht ho =>
      rw [frzAt_gen (ho d), frzAt_cont (ho d)] at hk
      exact old (by rw [cont_box, cont_kind]; exact hk)
    | mk d' k W _ hd ht ho =>
      by_cases hi : d' = d
      · subst hi
        have hkk : e1.kind d' = k := by unfold Env.kind; rw [ho, if_pos rfl]
        rw [hkk] at hk
        split at hk
        · cases k with
          | dead => cases hk
          | box l' =>
            simp only [OK.cont, Option.some.injEq, Cont.box.injEq] at hk
            subst hk
            have := hr.1 A hA
            exact ⟨pure_bdd1 this, AV.pure_cell1 this⟩
          | row => simp [OK.cont] at hk
        · cases hk
      · have ho' := ho d
        rw [if_neg hi] at ho'
        rw [frzAt_gen ho', frzAt_cont ho'] at hk
        exact old (by rw [cont_box, cont_kind]; exact hk)
  exact ⟨⟨ht, fun d g l hk A hA => (hbox d g l hk A hA).1⟩, fun d g l hk A hA => (hbox d g l hk A hA).2⟩

end
end Go.Bv

/- BY VALUE, part 11: an operation that may come first may be taken first. -/
set_option linter.unusedVariables false
set_option linter.unusedSimpArgs false
namespace Go.Bv

section
variable {R : Nat → List AV → Option AV} {e e1 e2 e' : Env}

def actOP (R : Nat → List AV → Option AV) (e : Env) (c : OP) : Option (Res × List Nat) :=
  match c.guard with
  | none => act R e c.op
  | some (t, want) => match e.tmps.getD t .unk with
    | .bool b => if b = want then act R e c.op else some (.val .und, [])
    | .und => some (.val .und, [])
    | _ => none

theorem evalO_act {o : O} {dst : Option Nat} (h : o.cls ≠ .w) : evalO R e dst o = match act R e o with
    | some (r, ks) => applyRes (e.freeze ks) dst r
    | none => none := by
  cases o <;> first | rfl | exact absurd rfl h

theorem evalOP_act {c : OP} (h : c.op.cls ≠ .w) : evalOP R e c = match actOP R e c with
    | some (r, ks) => applyRes (e.freeze ks) c.dst r
    | none => none := by
  unfold evalOP actOP
  cases c.guard with
  | none => exact evalO_act h
  | some g =>
    obtain ⟨t, want⟩ := g
    simp only
    cases e.tmps.getD t .unk <;> try rfl
    rename_i b
    simp only
    by_cases hb : b = want
    · rw [if_pos hb, if_pos hb]; exact evalO_act h
    · rw [if_neg hb, if_neg hb]; rfl

theorem actOP_sees {q : Nat → Nat → Prop} (hs : Sees q e e') (hb : Bdd q e) {c : OP} (hc : c.op.okc = true) (hw : c.op.cls ≠ .w) (ht : ∀ t ∈ c.reads, e'.tmps.getD t .unk = e.tmps.getD t .unk) : actOP R e' c = actOP R e c := by
  unfold actOP
  have h1 := act_sees (R := R) hs hb hc hw (fun t h => ht t (by unfold OP.reads; exact List.mem_append.2 (.inr h)))
  cases hg : c.guard with
  | none => exact h1
  | some g =>
    obtain ⟨t, want⟩ := g
    simp only
    rw [ht t (by unfold OP.reads; simp [hg]), h1]

theorem actOP_n {c : OP} (hn : c.op.cls = .n) (ht : ∀ t ∈ c.reads, e'.tmps.getD t .unk = e.tmps.getD t .unk) : actOP R e' c = actOP R e c := by
  unfold actOP
  have h1 := act_n (R := R) (e := e) (e' := e') hn (fun t h => ht t (by unfold OP.reads; exact List.mem_append.2 (.inr h)))
  cases hg : c.guard with
  | none => exact h1
  | some g =>
    obtain ⟨t, want⟩ := g
    simp only
    rw [ht t (by unfold OP.reads; simp [hg]), h1]

theorem act_n_val {o : O} (hn : o.cls = .n) {r : Res} {ks : List Nat} (h : act R e o = some (r, ks)) : ks = [] ∧ ∃ A, r = .val A := by
  cases o <;> (try (cases hn; done)) <;> simp only [act] at h <;> (repeat' split at h) <;> first
    | (cases h; done)
    | (simp only [Option.some.injEq, Prod.mk.injEq] at h; obtain ⟨rfl, rfl⟩ := h; exact ⟨rfl, _, rfl⟩)

theorem actOP_n_val {c : OP} (hn : c.op.cls = .n) {r : Res} {ks : List Nat} (h : actOP R e c = some (r, ks)) : ks = [] ∧ ∃ A, r = .val A := by
  unfold actOP at h
  cases hg : c.guard with
  | none => rw [hg] at h; exact act_n_val hn h
  | some g =>
    obtain ⟨t, want⟩ := g
    rw [hg] at h
    simp only at h
    cases hb : e.tmps.getD t .unk <;> simp only [hb] at h <;> try (cases h; done)
    · simp only [Option.some.injEq, Prod.mk.injEq] at h; obtain ⟨rfl, rfl⟩ := h; exact ⟨rfl, _, rfl⟩
    split at h
    · exact act_n_val hn h
    · simp only [Option.some.injEq, Prod.mk.injEq] at h; obtain ⟨rfl, rfl⟩ := h; exact ⟨rfl, _, rfl⟩

theorem act_makes {o : O} {k : OK} {ks : List Nat} {W : Option (Nat × List AV)} (h : act R e o = some (.mk k W, ks)) : o.makes = true := by
  cases o <;> first | rfl | (simp only [act] at h; (repeat' split at h) <;> simp at h; done) | (exfalso; rename_i n p; cases n <;> simp only [act] at h <;> (repeat' split at h) <;> simp at h)

theorem actOP_makes {c : OP} {k : OK} {ks : List Nat} {W : Option (Nat × List AV)} (h : actOP R e c = some (.mk k W, ks)) : c.op.makes = true := by
  unfold actOP at h
  cases hg : c.guard with
  | none => rw [hg] at h; exact act_makes h
  | some g =>
    obtain ⟨t, want⟩ := g
    rw [hg] at h
    simp only at h
    cases hb : e.tmps.getD t .unk <;> simp only [hb] at h <;> (try (cases h; done)) <;> (try (simp at h; done))
    split at h
    · exact act_makes h
    · simp at h

theorem actOP_ok (hb : Bdd e.q e) (hb1 : e.box1) {c : OP} (hc : c.op.okc = true) {r : Res} {ks : List Nat} (h : actOP R e c = some (r, ks)) : KeysLive e ks ∧ ResOk e r := by
  unfold actOP at h
  cases hg : c.guard with
  | none => rw [hg] at h; exact act_ok hb hb1 hc h
  | some g =>
    obtain ⟨t, want⟩ := g
    rw [hg] at h
    simp only at h
    cases hbb : e.tmps.getD t .unk <;> simp only [hbb] at h <;> try (cases h; done)
    · simp only [Option.some.injEq, Prod.mk.injEq] at h; obtain ⟨rfl, rfl⟩ := h; exact ⟨KeysLive.nil, trivial⟩
    split at h
    · exact act_ok hb hb1 hc h
    · simp only [Option.some.injEq, Prod.mk.injEq] at h; obtain ⟨rfl, rfl⟩ := h; exact ⟨KeysLive.nil, trivial⟩

/-! ### A temporary that is not asked for -/
theorem bdd1_true (A : AV) : bdd1 (fun _ _ => True) A := by cases A <;> trivial
theorem bddA_true (A : AV) : bddA (fun _ _ => True) A := by cases A <;> first | trivial | exact fun _ _ => bdd1_true _ | exact ⟨trivial, fun _ _ => bdd1_true _⟩
theorem Bdd_true (e : Env) : Bdd (fun _ _ => True) e := ⟨fun _ => bddA_true _, fun _ _ _ _ _ _ => bdd1_true _⟩
theorem put_ok? (e : Env) (dst : Option Nat) (A : AV) (d g : Nat) : (e.put dst A).ok? d g = e.ok? d g := by cases dst <;> rfl
theorem put_sees (e : Env) (dst : Option Nat) (A : AV) : Sees (fun _ _ => True) e (e.put dst A) := ⟨fun d g _ => by unfold Env.cont; rw [put_ok?]⟩
theorem put_cells (e : Env) (dst : Option Nat) (A B : AV) : (e.put dst A).cells B = e.cells B := cells_sees (put_sees e dst A) (bddA_true B)
theorem put_elems (e : Env) (dst : Option Nat) (A B : AV) : (e.put dst A).elems B = e.elems B := elems_sees (put_sees e dst A) (bddA_true B)
theorem put_freeze (e : Env) (dst : Option Nat) (A : AV) (ks : List Nat) : (e.put dst A).freeze ks = (e.freeze ks).put dst A := by cases dst <;> rfl
theorem put_setObj (e : Env) (dst : Option Nat) (A : AV) (d g : Nat) (k : OK) : (e.put dst A).setObj d g k = (e.setObj d g k).put dst A := by cases dst <;> rfl
theorem put_gen (e : Env) (dst : Option Nat) (A : AV) (d : Nat) : (e.put dst A).gen d = e.gen d := by cases dst <;> rfl
theorem put_cellOk (e : Env) (dst : Option Nat) (A B : AV) : (e.put dst A).cellOk B = e.cellOk B := by cases dst <;> rfl
theorem put_put (e : Env) {dst d : Option Nat} {A B : AV} (h : ∀ t, dst = some t → d ≠ some t) : (e.put dst A).put d B = (e.put d B).put dst A := by
  cases dst with
  | none => rfl
  | some t => cases d with
    | none => rfl
    | some s =>
      simp only [Env.put]
      rw [List.set_comm]
      exact fun hh => h t rfl (by rw [hh])

theorem put_applyRes {e : Env} {dst d : Option Nat} {A : AV} {r : Res} (h : ∀ t, dst = some t → d ≠ some t) : applyRes (e.put dst A) d r = (applyRes e d r).map (fun x => x.put dst A) := by
  cases r with
  | val B => simp only [applyRes, Option.map_some]; rw [put_put e h]
  | mk k W =>
    cases d with
    | none => rfl
    | some s =>
      simp only [applyRes, Env.put_objs]
      by_cases hs : s < e.objs.length
      · rw [if_pos hs, if_pos hs]
        simp only [Option.map_some, put_setObj, put_gen]
        rw [put_put _ h]
      · rw [if_neg hs, if_neg hs]; rfl

theorem put_storeA {e : Env} {dst : Option Nat} {A : AV} {n : Nat} {p x : AV} : storeA (e.put dst A) n p x = (storeA e n p x).map (fun y => y.put dst A) := by
  cases p <;> try rfl
  case ptr d g off =>
    simp only [storeA, put_ok?]
    cases e.ok? d g with
    | none => rfl
    | some k =>
      cases k <;> try rfl
      simp only
      have h1 : (partsA x).all (e.put dst A).cellOk = (partsA x).all e.cellOk := by
        congr 1
        funext B
        exact put_cellOk e dst A B
      rw [h1]
      split
      · simp only [Option.map_some, put_setObj]
      · rfl
  case rp d g i j =>
    simp only [storeA, put_cells]
    cases e.cells x with
    | none => rfl
    | some q =>
      obtain ⟨m, ks⟩ := q
      simp only [put_freeze, put_ok?]
      cases (e.freeze ks).ok? d g with
      | none => rfl
      | some k =>
        cases k <;> try rfl
        simp only
        split
        · simp only [Option.map_some, put_setObj]
        · rfl

theorem put_appendA {e : Env} {dst d : Option Nat} {A : AV} {E c by_ : Nat} {s : AV} {x : Option (List (List AV) × List Nat)} (h : ∀ t, dst = some t → d ≠ some t) :
    appendA (e.put dst A) d E c by_ s x = (appendA e d E c by_ s x).map (fun y => y.put dst A) := by
  cases x with
  | none => rfl
  | some q =>
    obtain ⟨m, ks⟩ := q
    cases s <;> try rfl
    case nil =>
      cases d with
      | none => rfl
      | some t =>
        simp only [appendA, Env.put_objs]
        split
        · simp only [Option.map_some, put_freeze, put_gen, put_setObj]
          rw [put_put _ h]
        · rfl
    case own d' g =>
      simp only [appendA, put_freeze, put_ok?]
      cases (e.freeze ks).ok? d' g with
      | none => rfl
      | some k =>
        cases k <;> try rfl
        simp only
        split
        · simp only [Option.map_some, put_setObj]
          rw [put_put _ h]
        · rfl

theorem put_get {e : Env} {dst : Option Nat} {A : AV} {t : Nat} (h : dst ≠ some t) : (e.put dst A).tmps.getD t .unk = e.tmps.getD t .unk := by
  cases dst with
  | none => rfl
  | some d => exact getD_set_ne' _ _ _ _ _ (fun hh => h (by rw [hh]))

theorem put_evalO {e : Env} {dst d : Option Nat} {A : AV} {o : O} (hc : o.okc = true) (hr : ∀ t, dst = some t → t ∉ o.reads) (h : ∀ t, dst = some t → d ≠ some t) :
    evalO R (e.put dst A) d o = (evalO R e d o).map (fun y => y.put dst A) := by
  have hg : ∀ t ∈ o.reads, (e.put dst A).tmps.getD t .unk = e.tmps.getD t .unk := fun t ht => put_get (fun hh => hr t hh ht)
  by_cases hw : o.cls = .w
  · cases o <;> try (cases hw; done)
    case st n p x =>
      simp only [O.reads, List.mem_append] at hg
      simp only [evalO, get_same (e := e) (fun t h => hg t (.inl h)), get_same (e := e) (fun t h => hg t (.inr h)), put_storeA]
    case app E c by_ s x =>
      simp only [O.reads, List.mem_append] at hg
      simp only [evalO, get_same (e := e) (fun t h => hg t (.inl h)), get_same (e := e) (fun t h => hg t (.inr h)), put_elems, put_appendA h]
    case apps E s x =>
      simp only [O.reads, List.mem_append] at hg
      simp only [evalO, get_same (e := e) (fun t h => hg t (.inl h)), get_same (e := e) (fun t h => hg t (.inr h)), put_appendA h]
  · rw [evalO_act hw, evalO_act hw, act_sees (put_sees e dst A) (Bdd_true e) hc hw hg]
    cases act R e o with
    | none => rfl
    | some q =>
      obtain ⟨r, ks⟩ := q
      simp only [put_freeze]
      exact put_applyRes h

theorem put_evalOP {e : Env} {dst : Option Nat} {A : AV} {c : OP} (hc : c.op.okc = true) (hr : ∀ t, dst = some t → t ∉ c.reads) (h : ∀ t, dst = some t → c.dst ≠ some t) :
    evalOP R (e.put dst A) c = (evalOP R e c).map (fun y => y.put dst A) := by
  unfold evalOP
  have h1 := put_evalO (R := R) (e := e) (d := c.dst) (A := A) hc (fun t ht hh => hr t ht (by unfold OP.reads; exact List.mem_append.2 (.inr hh))) h
  cases hg : c.guard with
  | none => exact h1
  | some g =>
    obtain ⟨t, want⟩ := g
    simp only
    rw [put_get (fun hh => hr t hh (by unfold OP.reads; simp [hg])), h1]
    cases e.tmps.getD t .unk <;> try rfl
    · simp only [Option.map_some]; rw [put_put e h]
    simp only
    split
    · rfl
    · simp only [Option.map_some]; rw [put_put e h]

/-! ### Which temporary turns -/
theorem applyRes_tmps {d : Option Nat} {r : Res} (h : applyRes e d r = some e1) {t : Nat} (ht : d ≠ some t) : e1.tmps.getD t .unk = e.tmps.getD t .unk := by
  have := spec_of (ks := []) (e := e) h
  cases this with
  | val _ A _ h1 h2 => rw [h1]; exact put_get ht
  | mk d k W _ hd h1 h2 => rw [h1]; exact getD_set_ne' _ _ _ _ _ (fun hh => ht (by rw [hh]))

theorem evalO_tmps {d : Option Nat} {o : O} (h : evalO R e d o = some e1) {t : Nat} (ht : d ≠ some t) : e1.tmps.getD t .unk = e.tmps.getD t .unk := by
  by_cases hw : o.cls = .w
  · cases o <;> try (cases hw; done)
    case st n p x =>
      simp only [evalO, storeA] at h
      (repeat' split at h) <;> first | (cases h; done) | (cases h; rfl)
    case app E c by_ s x =>
      simp only [evalO, appendA] at h
      (repeat' split at h) <;> first | (cases h; done) | (cases h; exact put_get ht)
    case apps E s x =>
      simp only [evalO, appendA] at h
      (repeat' split at h) <;> first | (cases h; done) | (cases h; exact put_get ht)
  · rw [evalO_act hw] at h
    cases ha : act R e o with
    | none => simp [ha] at h
    | some q =>
      obtain ⟨r, ks⟩ := q
      simp only [ha] at h
      exact applyRes_tmps (e := e.freeze ks) h ht

theorem evalOP_tmps {c : OP} (h : evalOP R e c = some e1) {t : Nat} (ht : c.dst ≠ some t) : e1.tmps.getD t .unk = e.tmps.getD t .unk := by
  unfold evalOP at h
  cases hg : c.guard with
  | none => rw [hg] at h; exact evalO_tmps h ht
  | some g =>
    obtain ⟨s, want⟩ := g
    rw [hg] at h
    simp only at h
    cases hb : e.tmps.getD s .unk <;> simp only [hb] at h <;> try (cases h; done)
    · cases h; exact put_get ht
    split at h
    · exact evalO_tmps h ht
    · cases h; exact put_get ht

/-! ### Keys that are given up stay so -/
theorem freeze_dead {ks : List Nat} {d : Nat} (hd : e.kind d = .dead) : (e.freeze ks).kind d = .dead := frzAt_dead (ks := ks) (freeze_at ks e d) hd
theorem setObj_dead {d d' g : Nat} {k : OK} (hd : e.kind d = .dead) (hne : d' ≠ d) : (e.setObj d' g k).kind d = .dead := by
  unfold Env.kind Env.setObj at *
  simp only [List.getElem?_set_ne hne]
  exact hd
theorem put_kind (e : Env) (dst : Option Nat) (A : AV) (d : Nat) : (e.put dst A).kind d = e.kind d := by cases dst <;> rfl

theorem live_ne {d d' g : Nat} {k : OK} (h : e.ok? d' g = some k) (hk : k.live = true) (hd : e.kind d = .dead) : d' ≠ d := fun hh => by
  subst hh
  rw [(Env.ok?_eq h).2.2] at hd
  rw [hd] at hk; cases hk

theorem appendA_dead {d : Option Nat} {E c by_ : Nat} {s : AV} {x : Option (List (List AV) × List Nat)} (h : appendA e d E c by_ s x = some e1) {t : Nat} (ht : d ≠ some t) (hd : e.kind t = .dead) : e1.kind t = .dead := by
  cases x with
  | none => simp [appendA] at h
  | some q =>
    obtain ⟨m, ks⟩ := q
    have hd' := freeze_dead (ks := ks) hd
    cases s <;> simp only [appendA] at h <;> try (cases h; done)
    case nil =>
      cases d with
      | none => simp at h
      | some d =>
        simp only at h
        split at h
        · cases h; rw [put_kind]; exact setObj_dead hd' (fun hh => ht (by rw [hh]))
        · cases h
    case own d' g =>
      cases hk : (e.freeze ks).ok? d' g with
      | none => simp [hk] at h
      | some k =>
        cases k <;> simp only [hk] at h <;> try (cases h; done)
        split at h
        · cases h; rw [put_kind]; exact setObj_dead hd' (live_ne hk rfl hd')
        · cases h

theorem evalO_dead {d : Option Nat} {o : O} (h : evalO R e d o = some e1) {t : Nat} (ht : d ≠ some t) (hd : e.kind t = .dead) : e1.kind t = .dead := by
  by_cases hw : o.cls = .w
  · cases o <;> try (cases hw; done)
    case st n p x =>
      simp only [evalO] at h
      cases hp : e.get p <;> simp only [hp, storeA] at h <;> try (cases h; done)
      case ptr d' g off =>
        cases hk : e.ok? d' g with
        | none => simp [hk] at h
        | some k =>
          cases k <;> simp only [hk] at h <;> try (cases h; done)
          split at h
          · cases h; exact setObj_dead hd (live_ne hk rfl hd)
          · cases h
      case rp d' g i j =>
        cases hc : e.cells (e.get x) with
        | none => simp [hc] at h
        | some q =>
          obtain ⟨m, ks⟩ := q
          simp only [hc] at h
          have hd' := freeze_dead (ks := ks) hd
          cases hk : (e.freeze ks).ok? d' g with
          | none => simp [hk] at h
          | some k =>
            cases k <;> simp only [hk] at h <;> try (cases h; done)
            split at h
            · cases h; exact setObj_dead hd' (live_ne hk rfl hd')
            · cases h
    case app E c by_ s x => exact appendA_dead h ht hd
    case apps E s x => exact appendA_dead h ht hd
  · rw [evalO_act hw] at h
    cases ha : act R e o with
    | none => simp [ha] at h
    | some q =>
      obtain ⟨r, ks⟩ := q
      simp only [ha] at h
      exact spec_dead (spec_of h) ht hd

theorem evalOP_dead {c : OP} (h : evalOP R e c = some e1) {t : Nat} (ht : c.dst ≠ some t) (hd : e.kind t = .dead) : e1.kind t = .dead := by
  unfold evalOP at h
  cases hg : c.guard with
  | none => rw [hg] at h; exact evalO_dead h ht hd
  | some g =>
    obtain ⟨s, want⟩ := g
    rw [hg] at h
    simp only at h
    cases hb : e.tmps.getD s .unk <;> simp only [hb] at h <;> try (cases h; done)
    · cases h; rw [put_kind]; exact hd
    split at h
    · exact evalO_dead h ht hd
    · cases h; rw [put_kind]; exact hd

/-! ### Two operations -/
structure Apart (a b : OP) : Prop where
  dst : ∀ d, a.dst = some d → d ∉ b.reads ∧ b.dst ≠ some d
  dst' : ∀ d, b.dst = some d → d ∉ a.reads
  cls : a.op.cls = .n ∨ b.op.cls = .n ∨ (a.op.cls = .v ∧ b.op.cls = .v)

theorem apartC_spec {a b : OP} (h : apartC a b = true) : Apart a b := by
  unfold apartC at h
  simp only [Bool.and_eq_true] at h
  obtain ⟨⟨h1, h2⟩, h3⟩ := h
  refine ⟨fun d hd => ?_, fun d hd => ?_, ?_⟩
  · rw [hd] at h1
    simp only [Bool.and_eq_true, Bool.not_eq_true', bne_iff_ne, ne_eq] at h1
    exact ⟨fun hh => by have := List.contains_iff_mem.2 hh; rw [this] at h1; exact absurd h1.1 (by decide), h1.2⟩
  · rw [hd] at h2
    simp only [Bool.not_eq_true'] at h2
    exact fun hh => by have := List.contains_iff_mem.2 hh; rw [this] at h2; exact absurd h2 (by decide)
  · cases ha : a.op.cls <;> cases hb : b.op.cls <;> simp [ha, hb] at h3 ⊢

/-- What it would make is not there yet. -/
def Dead (e : Env) (c : OP) : Prop := c.op.makes = true → ∀ d, c.dst = some d → e.kind d = .dead

structure Fit (e : Env) (cs : List OP) : Prop where
  bdd : Bdd e.q e
  box1 : e.box1
  dead : ∀ c ∈ cs, Dead e c

theorem swap {a b : OP} (h : Apart a b) (hca : a.op.okc = true) (hcb : b.op.okc = true) (hf : b.op.cls = .v → Fit e [a, b])
    (h1 : evalOP R e a = some e1) (h2 : evalOP R e1 b = some e2) : ∃ e1', evalOP R e b = some e1' ∧ evalOP R e1' a = some e2 := by
  by_cases hna : a.op.cls = .n
  · have ha := evalOP_act (R := R) (e := e) (c := a) (by rw [hna]; decide)
    rw [h1] at ha
    cases hact : actOP R e a with
    | none => simp [hact] at ha
    | some q =>
      obtain ⟨r, ks⟩ := q
      obtain ⟨rfl, A, rfl⟩ := actOP_n_val hna hact
      simp only [hact, applyRes, Option.some.injEq] at ha
      subst ha
      have hp := put_evalOP (R := R) (e := e) (A := A) hcb (fun t ht => (h.dst t ht).1) (fun t ht => (h.dst t ht).2)
      have hfz : e.freeze [] = e := rfl
      rw [hfz] at h2
      rw [hp] at h2
      cases hb : evalOP R e b with
      | none => rw [hb] at h2; cases h2
      | some e1' =>
        rw [hb] at h2
        simp only [Option.map_some, Option.some.injEq] at h2
        subst h2
        refine ⟨e1', rfl, ?_⟩
        rw [evalOP_act (by rw [hna]; decide), actOP_n hna (fun t ht => evalOP_tmps hb (fun hh => h.dst' t hh ht)), hact]
        rfl
  · by_cases hnb : b.op.cls = .n
    · have hact : actOP R e1 b = actOP R e b := actOP_n hnb (fun t ht => evalOP_tmps h1 (fun hh => (h.dst t hh).1 ht))
      rw [evalOP_act (by rw [hnb]; decide), hact] at h2
      rw [evalOP_act (by rw [hnb]; decide)]
      cases hb : actOP R e b with
      | none => simp [hb] at h2
      | some q =>
        obtain ⟨r, ks⟩ := q
        obtain ⟨rfl, A, rfl⟩ := actOP_n_val hnb hb
        simp only [hb, applyRes, Option.some.injEq] at h2 ⊢
        subst h2
        refine ⟨_, rfl, ?_⟩
        have hfz : e.freeze [] = e := rfl
        have hfz1 : e1.freeze [] = e1 := rfl
        rw [hfz, hfz1, put_evalOP (R := R) hca (fun t ht => h.dst' t ht) (fun t ht => fun hh => (h.dst t hh).2 ht), h1]
        rfl
    · have hv : a.op.cls = .v ∧ b.op.cls = .v := by
        rcases h.cls with hh | hh | hh
        · exact absurd hh hna
        · exact absurd hh hnb
        · exact hh
      have hwa : a.op.cls ≠ .w := by rw [hv.1]; decide
      have hwb : b.op.cls ≠ .w := by rw [hv.2]; decide
      have hF := hf hv.2
      rw [evalOP_act hwa] at h1
      rw [evalOP_act hwb] at h2
      cases hA : actOP R e a with
      | none => simp [hA] at h1
      | some qa =>
        obtain ⟨ra, ka⟩ := qa
        simp only [hA] at h1
        have hma : ra.made e a.dst := fun k W d hk hd => by subst hk; exact hF.dead a (by simp) (actOP_makes hA) d hd
        have hs1 := spec_sees (spec_of h1) hma
        have hB1 : actOP R e1 b = actOP R e b := actOP_sees hs1 hF.bdd hcb hwb (fun t ht => applyRes_tmps (e := e.freeze ka) h1 (fun hh => (h.dst t hh).1 ht))
        rw [hB1] at h2
        cases hB : actOP R e b with
        | none => simp [hB] at h2
        | some qb =>
          obtain ⟨rb, kb⟩ := qb
          simp only [hB] at h2
          have hmb : rb.made e b.dst := fun k W d hk hd => by subst hk; exact hF.dead b (by simp) (actOP_makes hB) d hd
          obtain ⟨e1', h3, h4⟩ := eff_swap h1 h2 (fun d hd => (h.dst d hd).2) hma hmb (actOP_ok hF.bdd hF.box1 hca hA).1 (actOP_ok hF.bdd hF.box1 hcb hB).1
          refine ⟨e1', ?_, ?_⟩
          · rw [evalOP_act hwb, hB]; exact h3
          · have hs2 := spec_sees (spec_of h3) hmb
            rw [evalOP_act hwa, actOP_sees hs2 hF.bdd hca hwa (fun t ht => applyRes_tmps (e := e.freeze kb) h3 (fun hh => h.dst' t hh ht)), hA]
            exact h4

def okDst (a b : OP) : Prop := (a.op.makes = true ∨ b.op.makes = true) → ∀ d, a.dst = some d → b.dst ≠ some d

theorem Fit.step {a : OP} {cs : List OP} (hF : Fit e (a :: cs)) (hca : a.op.okc = true) (hw : a.op.cls ≠ .w) (hdst : ∀ c ∈ cs, okDst a c) (h : evalOP R e a = some e1) : Fit e1 cs := by
  have h' := h
  rw [evalOP_act hw] at h
  cases hA : actOP R e a with
  | none => simp [hA] at h
  | some qa =>
    obtain ⟨ra, ka⟩ := qa
    simp only [hA] at h
    obtain ⟨i1, i2⟩ := spec_bdd (spec_of h) hF.bdd hF.box1 (actOP_ok hF.bdd hF.box1 hca hA).2
    refine ⟨i1, i2, fun c hc hm d hd => ?_⟩
    exact evalOP_dead h' (fun hh => hdst c hc (.inr hm) d hh hd) (hF.dead c (by simp [hc]) hm d hd)

theorem bubble : ∀ (l1 : List OP) (o : OP) (l2 : List OP) (e : Env), (∀ p ∈ l1, Apart p o) → (∀ p ∈ o :: l1, p.op.okc = true) → l1.Pairwise okDst → (∀ p ∈ l1, okDst p o) → (o.op.cls = .v → Fit e (o :: l1)) →
    evalOps R (l1 ++ o :: l2) e = some e' → ∃ e1, evalOP R e o = some e1 ∧ evalOps R (l1 ++ l2) e1 = some e'
  | [], o, l2, e, _, _, _, _, _, h => by
    simp only [List.nil_append, evalOps] at h ⊢
    cases ho : evalOP R e o with
    | none => simp [ho] at h
    | some e1 => simp only [ho] at h; exact ⟨e1, rfl, h⟩
  | p :: l1, o, l2, e, hap, hok, hpw, hpo, hF, h => by
    simp only [List.cons_append, evalOps] at h
    cases hp : evalOP R e p with
    | none => simp [hp] at h
    | some e1 =>
      simp only [hp] at h
      have hap0 := hap p (by simp)
      have hF1 : o.op.cls = .v → Fit e1 (o :: l1) := fun hv => by
        have hw : p.op.cls ≠ .w := by
          rcases hap0.cls with hh | hh | hh
          · rw [hh]; decide
          · rw [hv] at hh; cases hh
          · rw [hh.1]; decide
        have hF' : Fit e (p :: o :: l1) := ⟨(hF hv).bdd, (hF hv).box1, fun c hc => (hF hv).dead c (by
          simp only [List.mem_cons] at hc ⊢
          rcases hc with rfl | rfl | hc
          · exact .inr (.inl rfl)
          · exact .inl rfl
          · exact .inr (.inr hc))⟩
        refine hF'.step (hok p (by simp)) hw (fun c hc => ?_) hp
        rcases List.mem_cons.1 hc with rfl | hc
        · exact hpo p (by simp)
        · exact (List.pairwise_cons.1 hpw).1 c hc
      obtain ⟨e2, h1, h2⟩ := bubble l1 o l2 e1 (fun q hq => hap q (by simp [hq])) (fun q hq => hok q (by
          simp only [List.mem_cons] at hq ⊢
          rcases hq with rfl | hq
          · exact .inl rfl
          · exact .inr (.inr hq))) (List.pairwise_cons.1 hpw).2 (fun q hq => hpo q (by simp [hq])) hF1 h
      obtain ⟨e1', h3, h4⟩ := swap hap0 (hok p (by simp)) (hok o (by simp)) (fun hv => ⟨(hF hv).bdd, (hF hv).box1, fun c hc => (hF hv).dead c (by
          simp only [List.mem_cons, List.not_mem_nil, or_false] at hc ⊢
          rcases hc with rfl | rfl
          · exact .inr (.inl rfl)
          · exact .inl rfl)⟩) hp h1
      refine ⟨e1', h3, ?_⟩
      simp only [List.cons_append, evalOps, h4]
      exact h2

end
end Go.Bv
