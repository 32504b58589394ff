/- BY VALUE, part 9: what an operation gives leads to nothing that there is not yet. -/
import Derived.Test.YtnfmilnlekmjgaaBvReg1
import Derived.Test.YtnfmilnlekmjgaaBvRep
set_option linter.unusedVariables false
set_option linter.unusedSimpArgs false
namespace Go.Bv

section
variable {R : Nat → List AV → Option AV} {e e' : Env}

/-- A key and a turn of it that has been. -/
def Env.q (e : Env) (d g : Nat) : Prop := g ≤ e.gen d
def Env.box1 (e : Env) : Prop := ∀ d g l, e.ok? d g = some (.box l) → ∀ A ∈ l, A.cell1 = true

/-! ### The keys that an operation asks to be read only from now on are those of rows -/
def KeysLive (e : Env) (ks : List Nat) : Prop := ∀ k ∈ ks, ∃ E c f l, e.kind k = .row E c f l
theorem KeysLive.nil : KeysLive e [] := fun k hk => absurd hk (by simp)
theorem KeysLive.append {ks ks' : List Nat} (h : KeysLive e ks) (h' : KeysLive e ks') : KeysLive e (ks ++ ks') := fun k hk => by
  rcases List.mem_append.1 hk with hk | hk
  · exact h k hk
  · exact h' k hk
theorem KeysLive.one {d g E c f : Nat} {l : List (List AV)} (h : e.ok? d g = some (.row E c f l)) : KeysLive e [d] := fun k hk => by
  rw [List.mem_singleton] at hk
  subst hk
  exact ⟨E, c, f, l, (Env.ok?_eq h).2.2⟩

theorem view1_keys {A B : AV} {ks : List Nat} (h : e.view1 A = some (B, ks)) : KeysLive e ks ∧ B.pure = true := by
  cases A <;> simp only [Env.view1] at h <;> try (cases h; done)
  case own d g =>
    cases hk : e.ok? d g with
    | none => simp [hk] at h
    | some k =>
      cases k <;> simp [hk] at h
      obtain ⟨rfl, rfl⟩ := h
      exact ⟨KeysLive.one hk, rfl⟩
  all_goals
    simp only [Option.some.injEq, Prod.mk.injEq] at h
    obtain ⟨rfl, rfl⟩ := h
    exact ⟨KeysLive.nil, rfl⟩

theorem views_keys : ∀ {l m : List AV} {ks : List Nat}, e.views l = some (m, ks) → KeysLive e ks ∧ ∀ A ∈ m, A.pure = true
  | [], m, ks, h => by simp [Env.views] at h; obtain ⟨rfl, rfl⟩ := h; exact ⟨KeysLive.nil, fun A hA => absurd hA (by simp)⟩
  | A :: l, m, ks, h => by
    simp only [Env.views] at h
    cases h1 : e.view1 A with
    | none => simp [h1] at h
    | some r =>
      obtain ⟨B, k1⟩ := r
      simp only [h1] at h
      cases h2 : e.views l with
      | none => simp [h2] at h
      | some r =>
        obtain ⟨l', k2⟩ := r
        simp only [h2, Option.some.injEq, Prod.mk.injEq] at h
        obtain ⟨rfl, rfl⟩ := h
        obtain ⟨i1, i2⟩ := views_keys h2
        obtain ⟨j1, j2⟩ := view1_keys h1
        refine ⟨j1.append i1, fun C hC => ?_⟩
        rcases List.mem_cons.1 hC with rfl | hC
        · exact j2
        · exact i2 C hC

theorem cells_keys {A : AV} {m : List AV} {ks : List Nat} (h : e.cells A = some (m, ks)) : KeysLive e ks ∧ ∀ A ∈ m, A.pure = true := by
  cases A <;> exact views_keys h

theorem arg_keys {A B : AV} {ks : List Nat} (h : e.arg A = some (B, ks)) : KeysLive e ks := by
  by_cases hagg : ∃ l, A = .agg l
  · obtain ⟨l, rfl⟩ := hagg
    simp only [Env.arg] at h
    cases h1 : e.views l with
    | none => simp [h1] at h
    | some r =>
      obtain ⟨m, k⟩ := r
      simp only [h1, Option.some.injEq, Prod.mk.injEq] at h
      obtain ⟨rfl, rfl⟩ := h
      exact (views_keys h1).1
  · have : e.arg A = match e.view1 A with
        | some (B, ks) => some (B.norm, ks)
        | none => none := by cases A <;> first | rfl | exact absurd ⟨_, rfl⟩ hagg
    rw [this] at h
    cases h1 : e.view1 A with
    | none => simp [h1] at h
    | some r =>
      obtain ⟨m, k⟩ := r
      simp only [h1, Option.some.injEq, Prod.mk.injEq] at h
      obtain ⟨rfl, rfl⟩ := h
      exact (view1_keys h1).1

theorem args_keys : ∀ {xs : List X} {m : List AV} {ks : List Nat}, e.args xs = some (m, ks) → KeysLive e ks
  | [], m, ks, h => by simp [Env.args] at h; obtain ⟨rfl, rfl⟩ := h; exact KeysLive.nil
  | x :: xs, m, ks, h => by
    simp only [Env.args] at h
    cases h1 : e.arg (e.get x) with
    | none => simp [h1] at h
    | some r =>
      obtain ⟨B, k1⟩ := r
      simp only [h1] at h
      cases h2 : e.args xs with
      | none => simp [h2] at h
      | some r =>
        obtain ⟨l', k2⟩ := r
        simp only [h2, Option.some.injEq, Prod.mk.injEq] at h
        obtain ⟨rfl, rfl⟩ := h
        exact (arg_keys h1).append (args_keys h2)

theorem elems_keys {A : AV} {l : List (List AV)} {ks : List Nat} (h : e.elems A = some (l, ks)) : KeysLive e ks := by
  cases A <;> simp only [Env.elems] at h <;> try (cases h; done)
  case own d g =>
    cases hk : e.ok? d g with
    | none => simp [hk] at h
    | some k =>
      cases k <;> simp [hk] at h
      obtain ⟨rfl, rfl⟩ := h
      exact KeysLive.one hk
  all_goals
    simp only [Option.some.injEq, Prod.mk.injEq] at h
    obtain ⟨rfl, rfl⟩ := h
    exact KeysLive.nil

theorem lits_keys {c : Nat} : ∀ {xs : List X} {l : List (List AV)} {ks : List Nat}, lits e c xs = some (l, ks) → KeysLive e ks
  | [], l, ks, h => by simp [lits] at h; obtain ⟨rfl, rfl⟩ := h; exact KeysLive.nil
  | x :: xs, l, ks, h => by
    simp only [lits] at h
    cases h1 : e.cells (e.get x) with
    | none => simp [h1] at h
    | some r =>
      obtain ⟨m, k1⟩ := r
      simp only [h1] at h
      by_cases hm : m.length = c
      case neg => rw [if_neg hm] at h; cases h
      rw [if_pos hm] at h
      cases h2 : lits e c xs with
      | none => simp [h2] at h
      | some r =>
        obtain ⟨l', k2⟩ := r
        simp only [h2, Option.some.injEq, Prod.mk.injEq] at h
        obtain ⟨rfl, rfl⟩ := h
        exact (cells_keys h1).1.append (lits_keys h2)

theorem splice_mem {z l : List AV} {off : Nat} {A : AV} (h : A ∈ splice z off l) : A ∈ z ∨ A ∈ l := by
  unfold splice at h
  rcases List.mem_append.1 h with h | h
  · rcases List.mem_append.1 h with h | h
    · exact .inl (List.mem_of_mem_take h)
    · exact .inr h
  · exact .inl (List.mem_of_mem_drop h)

theorem fill_keys : ∀ {ps : List (Nat × Nat × X)} {z m : List AV} {ks : List Nat}, fill e z ps = some (m, ks) → (∀ A ∈ z, A.pure = true) → KeysLive e ks ∧ ∀ A ∈ m, A.pure = true
  | [], z, m, ks, h, hz => by simp [fill] at h; obtain ⟨rfl, rfl⟩ := h; exact ⟨KeysLive.nil, hz⟩
  | (off, n, x) :: ps, z, m, ks, h, hz => by
    simp only [fill] at h
    cases h1 : e.cells (e.get x) with
    | none => simp [h1] at h
    | some r =>
      obtain ⟨l, k1⟩ := r
      simp only [h1] at h
      by_cases hm : l.length = n ∧ off + n ≤ z.length
      case neg => rw [if_neg hm] at h; cases h
      rw [if_pos hm] at h
      cases h2 : fill e (splice z off l) ps with
      | none => simp [h2] at h
      | some r =>
        obtain ⟨z', k2⟩ := r
        simp only [h2, Option.some.injEq, Prod.mk.injEq] at h
        obtain ⟨rfl, rfl⟩ := h
        obtain ⟨c1, c2⟩ := cells_keys h1
        obtain ⟨i1, i2⟩ := fill_keys h2 (fun A hA => by
          rcases splice_mem hA with hA | hA
          · exact hz A hA
          · exact c2 A hA)
        exact ⟨c1.append i1, i2⟩

def ResOk (e : Env) : Res → Prop
  | .val A => bddA e.q A
  | .mk (.box l) => ∀ A ∈ l, A.pure = true
  | .mk (.row ..) => True
  | .mk .dead => False

theorem flat_bdd {A : AV} (h : A.flat = true) : bddA e.q A := by
  cases A <;> simp [AV.flat] at h <;> try trivial
  exact fun B hB => pure_bdd1 (h B hB)

theorem getD_mem {l : List AV} {i : Nat} {A : AV} (h : l[i]? = some A) : A ∈ l := List.mem_of_getElem? h

theorem binA_pure {op : BinOp} {A B D : AV} (h : binA op A B = some D) : D.pure = true := by
  unfold binA at h
  split at h
  · cases op <;> simp only at h <;> (repeat' split at h) <;> cases h <;> rfl
  · cases op <;> simp only at h <;> (repeat' split at h) <;> cases h <;> rfl
  · cases h

theorem unA_pure {op : UnOp} {A D : AV} (h : unA op A = some D) : D.pure = true := by
  unfold unA at h
  split at h
  · cases op <;> simp only at h <;> cases h <;> rfl
  · cases op <;> simp only at h <;> cases h <;> rfl
  · cases h

theorem mnxA_pure {mx : Bool} {A B D : AV} (h : mnxA mx A B = some D) : D.pure = true := by
  unfold mnxA at h
  split at h
  · split at h
    · cases h; rfl
    · cases h
  · cases h

/-- What an operation gives, and the rows that it wants to be read only from now on. -/
theorem act_ok (hb : Bdd e.q e) (hb1 : e.box1) {o : O} (hc : o.okc = true) {r : Res} {ks : List Nat} (h : act R e o = some (r, ks)) : KeysLive e ks ∧ ResOk e r := by
  have val : ∀ {A : AV}, some (Res.val A, ([] : List Nat)) = some (r, ks) → bddA e.q A → KeysLive e ks ∧ ResOk e r := by
    intro A hh hA
    simp only [Option.some.injEq, Prod.mk.injEq] at hh
    obtain ⟨rfl, rfl⟩ := hh
    exact ⟨KeysLive.nil, hA⟩
  have vals : ∀ {A : AV} {k : List Nat}, some (Res.val A, k) = some (r, ks) → bddA e.q A → KeysLive e k → KeysLive e ks ∧ ResOk e r := by
    intro A k hh hA hk
    simp only [Option.some.injEq, Prod.mk.injEq] at hh
    obtain ⟨rfl, rfl⟩ := hh
    exact ⟨hk, hA⟩
  have mks : ∀ {K : OK} {k : List Nat}, some (Res.mk K, k) = some (r, ks) → ResOk e (.mk K) → KeysLive e k → KeysLive e ks ∧ ResOk e r := by
    intro K k hh hA hk
    simp only [Option.some.injEq, Prod.mk.injEq] at hh
    obtain ⟨rfl, rfl⟩ := hh
    exact ⟨hk, hA⟩
  cases o <;> simp only [O.okc, Bool.and_eq_true] at hc <;> simp only [act] at h <;> try (cases h; done)
  case mv x => exact val h (get_bdd hb hc)
  case pick c a b =>
    cases hg : e.get c <;> simp only [hg] at h <;> try (cases h; done)
    rename_i v
    cases v
    · exact val h (get_bdd hb hc.2.2)
    · exact val h (get_bdd hb hc.2.1)
  case box T x =>
    cases h1 : e.cells (e.get x) with
    | none => simp [h1] at h
    | some q =>
      obtain ⟨l, k⟩ := q
      simp only [h1] at h
      exact mks h (cells_keys h1).2 (cells_keys h1).1
  case new T z => exact mks h (fun A hA => List.all_eq_true.1 hc A hA) KeysLive.nil
  case bld z ps =>
    cases h1 : fill e z ps with
    | none => simp [h1] at h
    | some q =>
      obtain ⟨l, k⟩ := q
      simp only [h1] at h
      obtain ⟨f1, f2⟩ := fill_keys h1 (fun A hA => List.all_eq_true.1 hc.1 A hA)
      exact vals h (fun A hA => pure_bdd1 (f2 A hA)) f1
  case lit E c xs =>
    cases h1 : lits e c xs with
    | none => simp [h1] at h
    | some q =>
      obtain ⟨l, k⟩ := q
      simp only [h1] at h
      exact vals h trivial (lits_keys h1)
  case ld n x =>
    have hg := get_bdd hb hc
    cases n with
    | none =>
      simp only [act] at h
      cases hx : e.get x <;> simp only [hx] at h <;> try (cases h; done)
      case ptr d g off =>
        cases hk : e.ok? d g with
        | none => simp [hk] at h
        | some k =>
          cases k <;> simp only [hk] at h <;> try (cases h; done)
          rename_i l
          cases hl : l[off]? with
          | none => simp [hl] at h
          | some A =>
            simp only [hl, Option.map_some] at h
            have h1 := hb.box d g l hk A (getD_mem hl)
            have h2 := hb1 d g l hk A (getD_mem hl)
            refine val h ?_
            cases A <;> first | exact h1 | trivial | (simp [AV.cell1] at h2)
      case rp d g i j =>
        cases hk : e.ok? d g with
        | none => simp [hk] at h
        | some k =>
          cases k <;> simp only [hk] at h <;> try (cases h; done)
          rename_i E c f l
          cases hl : (l.getD i [])[j]? with
          | none => simp only [hl] at h; cases h
          | some A =>
            simp only [hl] at h
            by_cases hpu : A.pure = true
            case neg => rw [if_neg hpu] at h; cases h
            rw [if_pos hpu] at h
            exact val h (pure_bddA hpu)
      case el l =>
        cases hl : l[0]? with
        | none => simp [hl] at h
        | some A =>
          simp only [hl] at h
          by_cases hpu : A.pure = true
          case neg => rw [if_neg hpu] at h; cases h
          rw [if_pos hpu] at h
          exact val h (pure_bddA hpu)
    | some n =>
      simp only [act] at h
      cases hx : e.get x <;> simp only [hx] at h <;> try (cases h; done)
      case ptr d g off =>
        cases hk : e.ok? d g with
        | none => simp [hk] at h
        | some k =>
          cases k <;> simp only [hk] at h <;> try (cases h; done)
          rename_i l
          by_cases hbb : off + n ≤ l.length
          case neg => rw [if_neg hbb] at h; cases h
          rw [if_pos hbb] at h
          cases hv : e.views ((l.drop off).take n) with
          | none => simp [hv] at h
          | some q =>
            obtain ⟨m, k⟩ := q
            simp only [hv] at h
            obtain ⟨f1, f2⟩ := views_keys hv
            exact vals h (fun A hA => pure_bdd1 (f2 A hA)) f1
      case rp d g i j =>
        cases hk : e.ok? d g with
        | none => simp [hk] at h
        | some k =>
          cases k <;> simp only [hk] at h <;> try (cases h; done)
          rename_i E c f l
          by_cases hbb : j + n ≤ (l.getD i []).length ∧ (((l.getD i []).drop j).take n).all AV.pure = true
          case neg => rw [if_neg hbb] at h; cases h
          rw [if_pos hbb] at h
          exact val h (fun A hA => pure_bdd1 (List.all_eq_true.1 hbb.2 A hA))
      case el l =>
        by_cases hbb : n ≤ l.length ∧ (l.take n).all AV.pure = true
        case neg => rw [if_neg hbb] at h; cases h
        rw [if_pos hbb] at h
        exact val h (fun A hA => pure_bdd1 (List.all_eq_true.1 hbb.2 A hA))
  case fa off n x =>
    have hg := get_bdd hb hc
    cases hx : e.get x <;> simp only [hx] at h <;> try (cases h; done)
    case ptr d g o =>
      rw [hx] at hg
      cases hk : e.ok? d g with
      | none => simp [hk] at h
      | some k =>
        cases k <;> simp only [hk] at h <;> try (cases h; done)
        exact val h hg
    case rp d g i j =>
      rw [hx] at hg
      cases hk : e.ok? d g with
      | none => simp [hk] at h
      | some k =>
        cases k <;> simp only [hk] at h <;> try (cases h; done)
        exact val h hg
    case el l =>
      exact val h trivial
  case nck x =>
    have hg := get_bdd hb hc
    cases hx : e.get x <;> simp only [hx] at h <;> try (cases h; done)
    case ptr d g o =>
      rw [hx] at hg
      cases hk : e.ok? d g with
      | none => simp [hk] at h
      | some k =>
        cases k <;> simp only [hk] at h <;> try (cases h; done)
        exact val h hg
    case rp d g i j =>
      rw [hx] at hg
      cases hk : e.ok? d g with
      | none => simp [hk] at h
      | some k =>
        cases k <;> simp only [hk] at h <;> try (cases h; done)
        exact val h hg
    case el l =>
      rw [hx] at hg
      exact val h hg
  case ia c x i =>
    have hg := get_bdd hb hc.1
    cases hi : e.get i <;> simp only [hi] at h <;> try (cases h; done)
    rename_i k n
    cases hx : e.get x <;> simp only [hx] at h <;> try (cases h; done)
    case sl l =>
      rw [hx] at hg
      by_cases hbb : 0 ≤ n ∧ n < (l.length : Int)
      case neg => rw [if_neg hbb] at h; cases h
      rw [if_pos hbb] at h
      by_cases hcc : (l.getD n.toNat []).length = c
      case neg => rw [if_neg hcc] at h; cases h
      rw [if_pos hcc] at h
      exact val h trivial
    case own d g =>
      rw [hx] at hg
      cases hk : e.ok? d g with
      | none => simp [hk] at h
      | some k =>
        cases k <;> simp only [hk] at h <;> try (cases h; done)
        rename_i E c' f l
        by_cases hbb : 0 ≤ n ∧ n < (l.length : Int) ∧ c' = c
        case neg => rw [if_neg hbb] at h; cases h
        rw [if_pos hbb] at h
        exact val h hg
  case lkp x i =>
    cases hx : e.get x <;> simp only [hx] at h <;> try (cases h; done)
    cases hi : e.get i <;> simp only [hi] at h <;> try (cases h; done)
    exact val h trivial
  case ix x i =>
    cases hx : e.get x <;> simp only [hx] at h <;> try (cases h; done)
    cases hi : e.get i <;> simp only [hi] at h <;> try (cases h; done)
    split at h
    · exact val h trivial
    · cases h
  case subs x lo hi =>
    cases hx : e.get x <;> simp only [hx] at h <;> try (cases h; done)
    split at h
    · split at h
      · exact val h trivial
      · cases h
    · cases h
  case sub c x lo hi =>
    cases h1 : e.elems (e.get x) with
    | none => simp [h1] at h
    | some q =>
      obtain ⟨m, k⟩ := q
      simp only [h1] at h
      split at h
      · split at h
        · exact vals h trivial (elems_keys h1)
        · cases h
      · cases h
  case cpy E c by_ x =>
    cases h1 : e.elems (e.get x) with
    | none => simp [h1] at h
    | some q =>
      obtain ⟨m, k⟩ := q
      simp only [h1] at h
      split at h
      · exact mks h trivial (elems_keys h1)
      · cases h
  case mk E c by_ z n =>
    cases hx : e.get n <;> simp only [hx] at h <;> try (cases h; done)
    split at h
    · exact mks h trivial KeysLive.nil
    · cases h
  case bin op x y =>
    cases h1 : binA op (e.get x) (e.get y) with
    | none => simp [h1] at h
    | some D => simp only [h1] at h; exact val h (pure_bddA (binA_pure h1))
  case beq ne x y =>
    cases hx : e.get x <;> simp only [hx] at h <;> try (cases h; done)
    cases hi : e.get y <;> simp only [hi] at h <;> try (cases h; done)
    exact val h trivial
  case eqs ne n x y =>
    cases hx : e.get x <;> simp only [hx] at h <;> try (cases h; done)
    cases hi : e.get y <;> simp only [hi] at h <;> try (cases h; done)
    split at h
    · exact val h trivial
    · cases h
  case un op x =>
    cases h1 : unA op (e.get x) with
    | none => simp [h1] at h
    | some D => simp only [h1] at h; exact val h (pure_bddA (unA_pure h1))
  case cvi k x =>
    cases hx : e.get x <;> simp only [hx] at h <;> try (cases h; done)
    exact val h trivial
  case cvs x =>
    cases hx : e.get x <;> simp only [hx] at h <;> try (cases h; done)
    exact val h trivial
  case cvsb x =>
    cases hx : e.get x <;> simp only [hx] at h <;> try (cases h; done)
    split at h
    · exact val h trivial
    · cases h
  case cvbs x =>
    cases h1 : e.elems (e.get x) with
    | none => simp [h1] at h
    | some q =>
      obtain ⟨m, k⟩ := q
      simp only [h1] at h
      split at h
      · exact val h trivial
      · cases h
  case lens x =>
    cases hx : e.get x <;> simp only [hx] at h <;> try (cases h; done)
    exact val h trivial
  case len x =>
    cases h1 : e.elems (e.get x) with
    | none => simp [h1] at h
    | some q =>
      obtain ⟨m, k⟩ := q
      simp only [h1] at h
      exact val h trivial
  case mnx mx x y =>
    cases h1 : mnxA mx (e.get x) (e.get y) with
    | none => simp [h1] at h
    | some D => simp only [h1] at h; exact val h (pure_bddA (mnxA_pure h1))
  case ext x i =>
    have hg := get_bdd hb hc
    cases hx : e.get x <;> simp only [hx] at h <;> try (cases h; done)
    rename_i l
    rw [hx] at hg
    cases hl : l[i]? with
    | none => simp [hl] at h
    | some A =>
      simp only [hl] at h
      by_cases hpu : A.flat = true
      case neg => rw [if_neg hpu] at h; cases h
      rw [if_pos hpu] at h
      exact val h (flat_bdd hpu)
  case call f xs =>
    cases h1 : e.args xs with
    | none => simp [h1] at h
    | some q =>
      obtain ⟨as, k⟩ := q
      simp only [h1] at h
      cases hr : R f as with
      | none => simp [hr] at h
      | some A =>
        by_cases hfr : ∃ E c l, A = .fr E c l
        · obtain ⟨E, c, l, rfl⟩ := hfr
          simp only [hr] at h
          exact mks h trivial (args_keys h1)
        · by_cases hnr : A.noRef = true
          · have h' : some (Res.val A, k) = some (r, ks) := by
              cases A <;> first | (simp only [hr, hnr, if_true] at h; exact h) | exact absurd ⟨_, _, _, rfl⟩ hfr
            refine vals h' ?_ (args_keys h1)
            cases A <;> first | trivial | exact flat_bdd hnr
          · cases A <;> first | (simp only [hr, hnr, if_false] at h; cases h; done) | exact absurd ⟨_, _, _, rfl⟩ hfr

end
end Go.Bv
