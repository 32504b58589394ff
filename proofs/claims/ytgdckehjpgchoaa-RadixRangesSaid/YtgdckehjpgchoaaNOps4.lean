/- BY VALUE, with trees. Part 18: structs compared, made; bytes. -/
import Derived.Test.YtgdckehjpgchoaaNCore
set_option linter.unusedVariables false
set_option linter.unusedSimpArgs false
namespace Go.Nv
variable [Dr]
open Go.RowKit
section
variable {P : Program} {w0 : World} {L : Lend} {ok0 : Nat → Nat → Prop} {e : Env} {a : Act} {w : World} {G : Gh} {o : Oper} {A : AV}
/-! ### Structs compared -/
omit [Dr] in
theorem drop_take_getD (l : List AV) (off n j : Nat) (hj : j < n) (h : off + n ≤ l.length) : ((l.drop off).take n).getD j .unk = l.getD (off + j) .unk := by
  simp [List.getD_eq_getElem?_getD, List.getElem?_take, List.getElem?_drop, hj]
omit [Dr] in
theorem take_drop_len (l : List AV) (off n : Nat) (h : off + n ≤ l.length) : ((l.drop off).take n).length = n := by
  simp; omega
omit [Dr] in
theorem sameCells_append : ∀ {ks ks' : List CK} {l m : List AV} {r : Bool}, sameCells (ks ++ ks') l m = some r →
    ∃ r1 r2, sameCells ks (l.take ks.length) (m.take ks.length) = some r1 ∧ sameCells ks' (l.drop ks.length) (m.drop ks.length) = some r2 ∧ r = (r1 && r2)
  | [], ks', l, m, r, h => ⟨true, r, rfl, by simpa using h, by simp⟩
  | .int :: ks, ks', l, m, r, h => by
    cases l with
    | nil => simp [sameCells] at h
    | cons A l =>
      cases m with
      | nil => cases A <;> simp [sameCells] at h
      | cons B m =>
        cases A <;> cases B <;> simp only [List.cons_append, sameCells] at h <;> try (cases h; done)
        rename_i k a k' b
        by_cases hk : k = k'
        case neg => rw [if_neg hk] at h; cases h
        rw [if_pos hk] at h
        cases h1 : sameCells (ks ++ ks') l m with
        | none => simp [h1] at h
        | some r' =>
          simp [h1] at h
          obtain ⟨r1, r2, q1, q2, q3⟩ := sameCells_append h1
          exact ⟨a == b && r1, r2, by simp [sameCells, hk, q1], by simpa using q2, by rw [← h, q3, Bool.and_assoc]⟩
  | .bool :: ks, ks', l, m, r, h => by
    cases l with
    | nil => simp [sameCells] at h
    | cons A l =>
      cases m with
      | nil => cases A <;> simp [sameCells] at h
      | cons B m =>
        cases A <;> cases B <;> simp only [List.cons_append, sameCells] at h <;> try (cases h; done)
        rename_i a b
        cases h1 : sameCells (ks ++ ks') l m with
        | none => simp [h1] at h
        | some r' =>
          simp [h1] at h
          obtain ⟨r1, r2, q1, q2, q3⟩ := sameCells_append h1
          exact ⟨a == b && r1, r2, by simp [sameCells, q1], by simpa using q2, by rw [← h, q3, Bool.and_assoc]⟩
  | .str :: ks, ks', l, m, r, h => by
    cases l with
    | nil => simp [sameCells] at h
    | cons A l =>
      cases m with
      | nil => cases A <;> simp [sameCells] at h
      | cons B m =>
        cases A <;> cases B <;> simp only [List.cons_append, sameCells] at h <;> try (cases h; done)
        rename_i a b
        cases h1 : sameCells (ks ++ ks') l m with
        | none => simp [h1] at h
        | some r' =>
          simp [h1] at h
          obtain ⟨r1, r2, q1, q2, q3⟩ := sameCells_append h1
          exact ⟨a.toList == b.toList && r1, r2, by simp [sameCells, q1], by simpa using q2, by rw [← h, q3, Bool.and_assoc]⟩
omit [Dr] in
theorem sameCells_len : ∀ {ks : List CK} {l m : List AV} {r : Bool}, sameCells ks l m = some r → l.length = ks.length ∧ m.length = ks.length
  | [], l, m, r, h => by cases l <;> cases m <;> simp [sameCells] at h <;> exact ⟨rfl, rfl⟩
  | k :: ks, l, m, r, h => by
    cases l with
    | nil => cases k <;> simp [sameCells] at h
    | cons A l =>
      cases m with
      | nil => cases k <;> cases A <;> simp [sameCells] at h
      | cons B m =>
        have : ∃ r', sameCells ks l m = some r' := by
          cases k <;> cases A <;> cases B <;> simp only [sameCells] at h <;> try (cases h; done)
          · split at h
            · cases h1 : sameCells ks l m with
              | none => simp [h1] at h
              | some r' => exact ⟨r', rfl⟩
            · cases h
          all_goals
            cases h1 : sameCells ks l m with
            | none => simp [h1] at h
            | some r' => exact ⟨r', rfl⟩
        obtain ⟨r', h'⟩ := this
        obtain ⟨q1, q2⟩ := sameCells_len h'
        exact ⟨by simp [q1], by simp [q2]⟩
/-- A value whose cells are told. -/
def CellsOf (w : World) (ok : Nat → Nat → Prop) (agg : Bool) (v : Value) (l : List AV) : Prop :=
  if agg then ∃ xs : Array Value, v = .agg xs ∧ xs.size = l.length ∧ ∀ j, j < l.length → RepR w ok (xs.getD j undef) (l.getD j .unk)
  else ∃ A, l = [A] ∧ RepR w ok v A
def isAggT (P : Program) (t : TypeId) : Bool := match P.underlying t with
  | some (.struct _) => true
  | some (.array _ _) => true
  | _ => false
omit [Dr] in
theorem run_isAgg {t : TypeId} {d : TypeDesc} (hd : P.underlying t = some d) (w : World) : (isAgg t).run P w = .ok (isAggT P t) w := by
  unfold isAggT
  cases d <;> simp [isAgg, run_underlying hd, hd]
omit [Dr] in
theorem plainT_agg {d : Nat} {t : TypeId} {ks : List CK} (h : plainT P d t = some ks) : ∃ D, P.underlying t = some D := by
  cases d with
  | zero => simp [plainT] at h
  | succ d =>
    simp only [plainT] at h
    cases hu : P.underlying t with
    | none => simp [hu] at h
    | some D => exact ⟨D, rfl⟩
omit [Dr] in
theorem run_eqFields_plain {d D : Nat} {ok : Nat → Nat → Prop}
    (ih : ∀ t ks, plainT P d t = some ks → ∀ vx vy l m r, CellsOf w ok (isAggT P t) vx l → CellsOf w ok (isAggT P t) vy m → sameCells ks l m = some r → (Op.equalIn D t vx vy).run P w = .ok r w)
    (hsz : ∀ t ks, plainT P d t = some ks → isAggT P t = true → sizeOf? P t = some ks.length) (h1 : ∀ t ks, plainT P d t = some ks → isAggT P t = false → ks.length = 1)
    (xs ys : Array Value) (L M : List AV) (hxs : xs.size = L.length) (hys : ys.size = M.length) (hx : ∀ j, j < L.length → RepR w ok (xs.getD j undef) (L.getD j .unk)) (hy : ∀ j, j < M.length → RepR w ok (ys.getD j undef) (M.getD j .unk)) :
    ∀ (fs : List Field) (n : Nat) (ks : List CK) (r : Bool), n ≤ L.length → n ≤ M.length → fieldsK (plainT P d) fs n = some ks → sameCells ks (L.drop n) (M.drop n) = some r → (Op.eqFields D xs ys fs).run P w = .ok r w := by
  intro fs
  induction fs with
  | nil =>
    intro n ks r hnL hnM hf hs
    simp [fieldsK] at hf
    subst hf
    have := sameCells_len hs
    simp only [List.length_nil] at this
    rw [List.eq_nil_of_length_eq_zero this.1, List.eq_nil_of_length_eq_zero this.2] at hs
    simp [sameCells] at hs
    subst hs
    simp [Op.eqFields]
  | cons f fs ihf =>
    intro n ks r hnL hnM hf hs
    simp only [fieldsK] at hf
    by_cases hn : f.name ≠ "_" ∧ f.offset = n
    case neg => rw [if_neg hn] at hf; cases hf
    rw [if_pos hn] at hf
    obtain ⟨hname, hoff⟩ := hn
    cases hp : plainT P d f.type with
    | none => simp [hp] at hf
    | some k1 =>
      simp only [hp] at hf
      cases hf2 : fieldsK (plainT P d) fs (n + k1.length) with
      | none => simp [hf2] at hf
      | some k2 =>
        simp only [hf2, Option.some.injEq] at hf
        subst hf
        have hlen := sameCells_len hs
        simp only [List.length_drop, List.length_append] at hlen
        obtain ⟨r1, r2, s1, s2, rfl⟩ := sameCells_append hs
        rw [List.drop_drop, List.drop_drop] at s2
        have hrest := ihf (n + k1.length) k2 r2 (by omega) (by omega) hf2 s2
        have part : ∀ (zs : Array Value) (N : List AV), zs.size = N.length → (∀ j, j < N.length → RepR w ok (zs.getD j undef) (N.getD j .unk)) → n + k1.length ≤ N.length → ∃ v, (part f.type zs f.offset).run P w = .ok v w ∧ CellsOf w ok (isAggT P f.type) v ((N.drop n).take k1.length) := by
          intro zs N hzs hz hle
          obtain ⟨DD, hDD⟩ := plainT_agg hp
          have hagg := run_isAgg hDD w
          cases hag : isAggT P f.type with
          | true =>
            have hsize := hsz _ _ hp hag
            rw [hag] at hagg
            refine ⟨.agg (zs.extract n (n + k1.length)), ?_, ?_⟩
            · simp [Go.part, hagg, run_sizeOf hsize, hoff]
            · simp only [CellsOf, if_true]
              refine ⟨_, rfl, by simp; omega, fun j hj => ?_⟩
              have hj' : j < k1.length := by simp at hj; omega
              have hz' := hz (n + j) (by omega)
              rw [drop_take_getD N n k1.length j hj' hle]
              have e1 : (zs.extract n (n + k1.length)).getD j undef = zs.getD (n + j) undef := by
                simp [Array.getElem?_extract, show j < min (n + k1.length) zs.size - n by omega, show n + j < zs.size by omega]
              rw [e1]; exact hz'
          | false =>
            have hk := h1 _ _ hp hag
            rw [hag] at hagg
            have hlt : n < zs.size := by omega
            refine ⟨zs.getD n undef, ?_, ?_⟩
            · simp [Go.part, hagg, hoff, hlt]
            · simp only [CellsOf, Bool.false_eq_true, if_false]
              refine ⟨N.getD n .unk, ?_, hz n (by omega)⟩
              rw [hk]
              have hlt' : n < N.length := by omega
              have h9 : (N.drop n).take 1 = [N[n]] := by rw [List.drop_eq_getElem_cons hlt']; rfl
              rw [h9]
              simp [List.getD_eq_getElem?_getD, hlt']
        obtain ⟨vx, p1, p2⟩ := part xs L hxs hx (by omega)
        obtain ⟨vy, p3, p4⟩ := part ys M hys hy (by omega)
        have heq := ih _ _ hp vx vy _ _ r1 p2 p4 s1
        simp only [Op.eqFields, hname, ne_eq, not_false_eq_true, if_true, Sem.run_bind, p1, p3, heq, Result.andThen_ok]
        cases r1
        · simp
        · simp [hrest]
omit [Dr] in
theorem run_equalIn_plain {ok : Nat → Nat → Prop} : ∀ (d : Nat) (t : TypeId) (ks : List CK), plainT P d t = some ks → ∀ D, d ≤ D → ∀ vx vy l m r, CellsOf w ok (isAggT P t) vx l → CellsOf w ok (isAggT P t) vy m → sameCells ks l m = some r →
    (Op.equalIn D t vx vy).run P w = .ok r w := by
  intro d
  induction d with
  | zero => intro t ks h; simp [plainT] at h
  | succ d ih =>
    intro t ks h D hD vx vy l m r hx hy hs
    obtain ⟨D, rfl⟩ : ∃ D', D = D' + 1 := ⟨D - 1, by omega⟩
    simp only [plainT] at h
    cases hu : P.underlying t with
    | none => simp [hu] at h
    | some T =>
      cases T <;> simp only [hu] at h <;> try (cases h; done)
      case int k0 =>
        cases h
        simp only [isAggT, hu, CellsOf, Bool.false_eq_true, if_false] at hx hy
        obtain ⟨A, rfl, hA⟩ := hx
        obtain ⟨B, rfl, hB⟩ := hy
        cases A <;> cases B <;> simp only [sameCells] at hs <;> try (cases hs; done)
        rename_i k a k' b
        by_cases hk : k = k'
        case neg => rw [if_neg hk] at hs; cases hs
        rw [if_pos hk] at hs
        subst hk
        simp at hs
        subst hs
        cases hA; cases hB
        exact run_equalIn_int w D t k k0 a b hu
      case bool =>
        cases h
        simp only [isAggT, hu, CellsOf, Bool.false_eq_true, if_false] at hx hy
        obtain ⟨A, rfl, hA⟩ := hx
        obtain ⟨B, rfl, hB⟩ := hy
        cases A <;> cases B <;> simp only [sameCells] at hs <;> try (cases hs; done)
        rename_i a b
        simp at hs
        subst hs
        cases hA; cases hB
        exact run_equalIn_bool' w D t a b hu
      case string =>
        cases h
        simp only [isAggT, hu, CellsOf, Bool.false_eq_true, if_false] at hx hy
        obtain ⟨A, rfl, hA⟩ := hx
        obtain ⟨B, rfl, hB⟩ := hy
        cases A <;> cases B <;> simp only [sameCells] at hs <;> try (cases hs; done)
        rename_i a b
        simp at hs
        subst hs
        cases hA; cases hB
        exact run_equalIn_string w D t a b hu
      case struct fs =>
        by_cases hst : P.stoodInHeld t = false
        case neg => rw [if_neg hst] at h; cases h
        rw [if_pos hst] at h
        cases hf : fieldsK (plainT P d) fs.toList 0 with
        | none => simp [hf] at h
        | some ks' =>
          simp only [hf] at h
          by_cases hsz : sizeOf? P t = some ks'.length
          case neg => rw [if_neg hsz] at h; cases h
          rw [if_pos hsz] at h
          cases h
          simp only [isAggT, hu, CellsOf, if_true] at hx hy
          obtain ⟨xs, rfl, hxs, hx⟩ := hx
          obtain ⟨ys, rfl, hys, hy⟩ := hy
          have hfo : P.fieldsOf t = fs := by simp [Program.fieldsOf, hu]
          rw [run_equalIn_struct w D t xs ys (by rw [hfo]; exact hu) hst, hfo]
          refine run_eqFields_plain (d := d) (D := D) (ok := ok) (fun t' ks' h' vx vy l m r a1 a2 a3 => ih t' ks' h' D (by omega) vx vy l m r a1 a2 a3) (fun t' ks' h' hag => ?_) (fun t' ks' h' hag => ?_) xs ys l m hxs hys hx hy fs.toList 0 ks r (Nat.zero_le _) (Nat.zero_le _) hf (by simpa using hs)
          · cases d with
            | zero => simp [plainT] at h'
            | succ d =>
              simp only [plainT] at h'
              cases hu' : P.underlying t' with
              | none => simp [hu'] at h'
              | some T' =>
                cases T' <;> simp only [hu'] at h' <;> first
                  | (simp [isAggT, hu'] at hag; done)
                  | (cases h'; done)
                  | skip
                by_cases q : P.stoodInHeld t' = false
                case neg => rw [if_neg q] at h'; cases h'
                rw [if_pos q] at h'
                split at h'
                · rename_i ks2 hks2
                  by_cases q2 : sizeOf? P t' = some ks2.length
                  · rw [if_pos q2] at h'; cases h'; exact q2
                  · rw [if_neg q2] at h'; cases h'
                · cases h'
          · cases d with
            | zero => simp [plainT] at h'
            | succ d =>
              simp only [plainT] at h'
              cases hu' : P.underlying t' with
              | none => simp [hu'] at h'
              | some T' =>
                cases T' <;> simp only [hu'] at h' <;> first
                  | (cases h'; rfl)
                  | (simp [isAggT, hu'] at hag; done)
                  | (cases h'; done)
omit [Dr] in
theorem sameCells_flat : ∀ {ks : List CK} {l m : List AV} {r : Bool}, sameCells ks l m = some r → (∀ j, j < l.length → (l.getD j .unk).pure = true) ∧ ∀ j, j < m.length → (m.getD j .unk).pure = true := by
  intro ks
  induction ks with
  | nil =>
    intro l m r h
    cases l <;> cases m <;> simp [sameCells] at h
    exact ⟨fun j hj => absurd hj (by simp), fun j hj => absurd hj (by simp)⟩
  | cons k ks ih =>
    intro l m r h
    have key : ∀ {x y : AV} {l m : List AV} {r : Bool}, x.pure = true → y.pure = true → sameCells ks l m = some r → (∀ j, j < (x :: l).length → ((x :: l).getD j .unk).pure = true) ∧ ∀ j, j < (y :: m).length → ((y :: m).getD j .unk).pure = true := by
      intro x y l m r hx hy hh
      obtain ⟨i1, i2⟩ := ih hh
      refine ⟨fun j hj => ?_, fun j hj => ?_⟩
      · cases j with
        | zero => exact hx
        | succ j => exact i1 j (by simpa using hj)
      · cases j with
        | zero => exact hy
        | succ j => exact i2 j (by simpa using hj)
    cases k <;> cases l <;> cases m <;> try (simp [sameCells] at h; done)
    all_goals
      rename_i x l y m
      cases x <;> cases y <;> try (simp [sameCells] at h; done)
      simp only [sameCells] at h
    · split at h
      · cases hh : sameCells ks l m with
        | none => simp [hh] at h
        | some r => exact key rfl rfl hh
      · cases h
    · cases hh : sameCells ks l m with
      | none => simp [hh] at h
      | some r => exact key rfl rfl hh
    · cases hh : sameCells ks l m with
      | none => simp [hh] at h
      | some r => exact key rfl rfl hh
theorem sim_eqs (h : Rel w0 L ok0 e a w G) {ne : Bool} {op : BinOp} {T U : TypeId} {fs : Array Field} {ks : List CK} {x y : Operand} {x' y' : X} (hx : compX x = some x') (hy : compX y = some y') (ho : o.op = .binOp op T x y U)
    (hop : op = if ne then .neq else .eql) (hT : P.underlying T = some (.struct fs)) (hg : P.eqGuardType P.depth T = false) (hp : plainT P 20 T = some ks)
    (he : act e (.eqs ne ks x' y') = some A) : SimV P o a w G e A := by
  simp only [act] at he
  have h1 := compX_rep hx h
  have h2 := compX_rep hy h
  cases hgx : e.get x' <;> simp only [hgx] at he h1 <;> try (cases he; done)
  cases hgy : e.get y' <;> simp only [hgy] at he h2 <;> try (cases he; done)
  rename_i l m
  cases hs : sameCells ks l m with
  | none => simp [hs] at he
  | some r =>
    simp only [hs] at he
    obtain ⟨xs, e1, a1, b1'⟩ := h1
    have b1 := fun j hj => (b1' j hj).pureOf ((sameCells_flat hs).1 j hj)
    obtain ⟨ys, e2, a2, b2'⟩ := h2
    have b2 := fun j hj => (b2' j hj).pureOf ((sameCells_flat hs).2 j hj)
    have hagg : isAggT P T = true := by simp [isAggT, hT]
    have hr := run_equalIn_plain (P := P) (w := w) (ok := G.ok) 20 T ks hp 10000 (by omega) (.agg xs) (.agg ys) l m r (by rw [hagg]; exact ⟨xs, rfl, a1, b1⟩) (by rw [hagg]; exact ⟨ys, rfl, a2, b2⟩) hs
    refine sim_val0 h (v := .bool (if ne then !r else r)) ?_ (RepR.bool _).toT he
    subst hop
    cases ne
    · simp only [execOp, ho, Sem.run_bind, e1, e2, Bool.false_eq_true, if_false, run_eqGuard_agg w _ T x y xs ys hg, Result.andThen_ok, run_eql_struct, hr, Sem.run_pure]
    · simp only [execOp, ho, Sem.run_bind, e1, e2, if_true, run_eqGuard_agg w _ T x y xs ys hg, Result.andThen_ok, run_neq_struct, hr, Sem.run_pure]
omit [Dr] in
theorem splice_len (z : List AV) (off : Nat) (l : List AV) (h : off + l.length ≤ z.length) : (splice z off l).length = z.length := by
  simp [splice]; omega
omit [Dr] in
theorem splice_getD (z : List AV) (off : Nat) (l : List AV) (h : off + l.length ≤ z.length) (k : Nat) :
    (splice z off l).getD k .unk = if k < off then z.getD k .unk else if k < off + l.length then l.getD (k - off) .unk else z.getD k .unk := by
  simp only [splice, List.getD_eq_getElem?_getD, List.append_assoc]
  by_cases h1 : k < off
  · rw [if_pos h1, List.getElem?_append_left (by simp; omega), List.getElem?_take, if_pos h1]
  · rw [if_neg h1, List.getElem?_append_right (by simp; omega)]
    have e1 : (z.take off).length = off := by simp; omega
    rw [e1]
    by_cases h2 : k < off + l.length
    · rw [if_pos h2, List.getElem?_append_left (by omega)]
    · rw [if_neg h2, List.getElem?_append_right (by omega), List.getElem?_drop]
      congr 2; omega
omit [Dr] in
theorem zipFold_list (off : Nat) : ∀ (vs : List Value) (s : Nat) (cs : Array Value), off + s + vs.length ≤ cs.size →
    ((vs.zipIdx s).foldl (fun cs p => cs.setIfInBounds (off + p.2) p.1) cs).size = cs.size ∧
    ∀ k, ((vs.zipIdx s).foldl (fun cs p => cs.setIfInBounds (off + p.2) p.1) cs).getD k undef = if k < off + s then cs.getD k undef else if k < off + s + vs.length then vs.getD (k - (off + s)) undef else cs.getD k undef
  | [], s, cs, h => by
    refine ⟨rfl, fun k => ?_⟩
    simp only [List.zipIdx_nil, List.foldl_nil, List.length_nil, Nat.add_zero]
    split
    · rfl
    · rfl
  | v :: vs, s, cs, h => by
    simp only [List.length_cons] at h
    obtain ⟨i1, i2⟩ := zipFold_list off vs (s + 1) (cs.setIfInBounds (off + s) v) (by simp; omega)
    simp only [List.zipIdx_cons, List.foldl_cons]
    refine ⟨by rw [i1]; simp, fun k => ?_⟩
    rw [i2 k]
    simp only [List.length_cons]
    by_cases h1 : k < off + s
    · rw [if_pos (by omega), if_pos h1, agetD_set_ne _ _ _ _ _ (by omega)]
    · rw [if_neg h1]
      by_cases h2 : k = off + s
      · subst h2
        rw [if_pos (by omega), if_pos (by omega), agetD_set_eq _ _ _ _ (by omega), Nat.sub_self]
        rfl
      · rw [if_neg (by omega)]
        by_cases h3 : k < off + s + (vs.length + 1)
        · rw [if_pos (by omega), if_pos h3]
          have : k - (off + s) = (k - (off + (s + 1))) + 1 := by omega
          rw [this]
          rfl
        · rw [if_neg (by omega), if_neg h3, agetD_set_ne _ _ _ _ _ (by omega)]
omit [Dr] in
theorem zipFold (off : Nat) (vs cs : Array Value) (h : off + vs.size ≤ cs.size) :
    (vs.zipIdx.foldl (fun cs (p : Value × Nat) => cs.setIfInBounds (off + p.2) p.1) cs).size = cs.size ∧
    ∀ k, (vs.zipIdx.foldl (fun cs (p : Value × Nat) => cs.setIfInBounds (off + p.2) p.1) cs).getD k undef = if k < off then cs.getD k undef else if k < off + vs.size then vs.getD (k - off) undef else cs.getD k undef := by
  have := zipFold_list off vs.toList 0 cs (by simpa using h)
  rw [← Array.foldl_toList, Array.toList_zipIdx]
  simpa using this
omit [Dr] in
theorem partsOf_spec {places : List (Nat × Nat)} : ∀ {ps : List (Nat × Operand)} {qs : List (Nat × Nat × X)}, partsOf places ps = some qs →
    qs.length = ps.length ∧ ∀ j, j < ps.length → places[(ps.getD j default).1]? = some ((qs.getD j default).1, (qs.getD j default).2.1) ∧ compX (ps.getD j default).2 = some (qs.getD j default).2.2
  | [], qs, h => by simp [partsOf] at h; subst h; exact ⟨rfl, fun j hj => absurd hj (by simp)⟩
  | (i, x) :: ps, qs, h => by
    simp only [partsOf] at h
    cases h1 : places[i]? with
    | none => simp [h1] at h
    | some r =>
      cases h2 : compX x with
      | none => simp [h1, h2] at h
      | some y =>
        cases h3 : partsOf places ps with
        | none => simp [h1, h2, h3] at h
        | some m =>
          obtain ⟨off, n⟩ := r
          simp only [h1, h2, h3, Option.some.injEq] at h
          subst h
          obtain ⟨i1, i2⟩ := partsOf_spec h3
          refine ⟨by simp [i1], fun j hj => ?_⟩
          cases j with
          | zero => exact ⟨h1, h2⟩
          | succ j => simpa using i2 j (by simpa using hj)
omit [Dr] in
theorem zeroOf_spec {t : TypeId} {z : List AV × Nat × Nat} (h : zeroOf P t = some z) : ∃ i zv, P.info? t = some i ∧ i.zero = some zv ∧ avsOf zv.cells.toList = some z.1 ∧ i.size = z.1.length ∧ i.size = z.2.1 ∧ i.bytes = z.2.2 ∧ zv.cells.size = i.size := by
  unfold zeroOf at h
  cases h1 : P.info? t with
  | none => simp [h1] at h
  | some i =>
    simp only [h1] at h
    cases h2 : i.zero with
    | none => simp [h2] at h
    | some zv =>
      simp only [h2] at h
      cases h3 : avsOf zv.cells.toList with
      | none => simp [h3] at h
      | some l =>
        simp only [h3] at h
        by_cases h4 : i.size = l.length
        · rw [if_pos h4] at h
          cases h
          have := (avsOf_rep h3 (default : World) (fun _ _ => True)).1
          exact ⟨i, zv, rfl, h2, h3, h4, rfl, rfl, by rw [h4, this]; simp⟩
        · rw [if_neg h4] at h; cases h
omit [Dr] in
theorem zero_rep {zv : Value} {l : List AV} (h : avsOf zv.cells.toList = some l) (w : World) (ok : Nat → Nat → Prop) : zv.cells.size = l.length ∧ ∀ k, k < l.length → RepR w ok (zv.cells.getD k undef) (l.getD k .unk) ∧ (l.getD k .unk).pure = true := by
  obtain ⟨h1, h2⟩ := avsOf_rep h w ok
  refine ⟨by rw [h1]; simp, fun k hk => ?_⟩
  have := h2 k hk
  simpa [List.getD_eq_getElem?_getD] using this
omit [Dr] in
theorem partsT_rep {v : Value} {A : AV} {l : List AV} (hA : RepT w G e v A) (hl : partsT A = some l) : v.cells.size = l.length ∧ ∀ j, j < l.length → RepT0 w G e (v.cells.getD j undef) (l.getD j .unk) := by
  have one : cellT A = true → l = [A] → RepT0 w G e v A → v.cells = #[v] → v.cells.size = l.length ∧ ∀ j, j < l.length → RepT0 w G e (v.cells.getD j undef) (l.getD j .unk) := by
    rintro hc rfl h0 hv
    rw [hv]
    refine ⟨rfl, fun j hj => ?_⟩
    have : j = 0 := by simp at hj; exact hj
    subst this
    exact h0
  by_cases hagg : ∃ m, A = .agg m
  · obtain ⟨m, rfl⟩ := hagg
    cases hl
    obtain ⟨vs, rfl, hs, hr⟩ := hA
    exact ⟨hs, hr⟩
  have hp : partsT A = if cellT A = true then some [A] else none := by cases A <;> first | rfl | exact absurd ⟨_, rfl⟩ hagg
  rw [hp] at hl
  by_cases hc : cellT A = true
  case neg => rw [if_neg hc] at hl; cases hl
  rw [if_pos hc] at hl
  cases hl
  by_cases href : ∃ d g n q j, A = .ref d g n q j
  · obtain ⟨d, g, n, q, j, rfl⟩ := href
    obtain ⟨ad, k, cap, hv⟩ := hA.2.2.2
    exact one hc rfl hA (by rw [hv]; rfl)
  · have hpu : A.pure = true := by cases A <;> first | exact hc | exact absurd ⟨_, _, _, _, _, rfl⟩ href
    have h0 : RepT0 w G e v A := by cases A <;> first | exact hA | exact absurd ⟨_, rfl⟩ hagg | cases hpu
    exact one hc rfl h0 ((h0.pureOf hpu).cells_one hpu)
end
end Go.Nv
/- BY VALUE, with trees. Part 19: structs made; bytes told as a string; comparisons with nil. -/
namespace Go.Nv
variable [Dr]
open Go.RowKit
section
variable {P : Program} {w0 : World} {L : Lend} {ok0 : Nat → Nat → Prop} {e : Env} {a : Act} {w : World} {G : Gh} {o : Oper} {A : AV}
theorem fillT_rep (h : Rel w0 L ok0 e a w G) (place : Nat → Option (Nat × Nat)) :
    ∀ (ps : List (Nat × Operand)) (qs : List (Nat × Nat × X)) (z zc : List AV) (cs : Array Value),
      qs.length = ps.length → (∀ j, j < ps.length → place (ps.getD j default).1 = some ((qs.getD j default).1, (qs.getD j default).2.1) ∧ compX (ps.getD j default).2 = some (qs.getD j default).2.2) →
      fillT e z qs = some zc → cs.size = z.length → (∀ k, k < z.length → RepT0 w G e (cs.getD k undef) (z.getD k .unk)) →
      ∃ cells, Instr.fill place cs (ps.map fun p => (p.1, a.eval p.2)) = some cells ∧ cells.size = zc.length ∧ zc.length = z.length ∧
        ∀ k, k < zc.length → RepT0 w G e (cells.getD k undef) (zc.getD k .unk) := by
  intro ps
  induction ps with
  | nil =>
    intro qs z zc cs hl hq hf hs hr
    have : qs = [] := List.eq_nil_of_length_eq_zero (by simpa using hl)
    subst this
    simp [fillT] at hf
    subst hf
    exact ⟨cs, rfl, hs, rfl, hr⟩
  | cons p ps ih =>
    intro qs z zc cs hl hq hf hs hr
    cases qs with
    | nil => simp at hl
    | cons q qs =>
      obtain ⟨off, n, x⟩ := q
      obtain ⟨i, px⟩ := p
      obtain ⟨hp1, hp2⟩ := hq 0 (by simp)
      simp only [List.getD_cons_zero] at hp1 hp2
      simp only [fillT] at hf
      cases hc : partsT (e.get x) with
      | none => simp [hc] at hf
      | some l =>
        simp only [hc] at hf
        by_cases hb : l.length = n ∧ off + n ≤ z.length
        case neg => rw [if_neg hb] at hf; cases hf
        rw [if_pos hb] at hf
        obtain ⟨c1, c2⟩ := partsT_rep (compX_rep hp2 h) hc
        have hfit : off + l.length ≤ z.length := by rw [hb.1]; exact hb.2
        have hsz : off + (a.eval px).cells.size ≤ cs.size := by rw [c1, hs]; exact hfit
        obtain ⟨f1, f2⟩ := zipFold off (a.eval px).cells cs hsz
        have hspl := splice_len z off l hfit
        obtain ⟨cells, g1, g2, g3, g4⟩ := ih qs (splice z off l) zc _ (by simpa using hl) (fun j hj => by have := hq (j + 1) (by simpa using hj); simpa using this) hf
          (by rw [f1, hs, hspl]) (fun k hk => by
            rw [hspl] at hk
            rw [f2 k, splice_getD z off l hfit k, c1]
            have hz := hr k hk
            by_cases q1 : k < off
            · rw [if_pos q1, if_pos q1]; exact hz
            · rw [if_neg q1, if_neg q1]
              by_cases q2 : k < off + l.length
              · rw [if_pos q2, if_pos q2]
                exact c2 (k - off) (by omega)
              · rw [if_neg q2, if_neg q2]; exact hz)
        refine ⟨cells, ?_, g2, by rw [g3, hspl], g4⟩
        simp only [List.map_cons, Instr.fill, hp1]
        rw [if_neg (by rw [c1]; simp; omega)]
        exact g1
theorem sim_bld (h : Rel w0 L ok0 e a w G) {t : TypeId} {parts : Array (Nat × Operand)} {fields : Array Field} {z : List AV × Nat × Nat} {places : List (Nat × Nat)} {qs : List (Nat × Nat × X)} (ho : o.op = .build t parts)
    (ht : P.underlying t = some (.struct fields)) (hz : zeroOf P t = some z) (hp : fields.toList.mapM (fun f => (P.info? f.type).map fun i => (f.offset, i.size)) = some places) (hq : partsOf places parts.toList = some qs)
    (he : act e (.bld z.1 qs) = some A) : SimV P o a w G e A := by
  simp only [act] at he
  cases hf : fillT e z.1 qs with
  | none => simp [hf] at he
  | some l =>
    simp only [hf] at he
    obtain ⟨i, zv, z1, z2, z3, _, _, _, _⟩ := zeroOf_spec hz
    obtain ⟨p1, p2⟩ := partsOf_spec hq
    obtain ⟨r1, r2⟩ := zero_rep z3 w G.ok
    obtain ⟨cells, g1, g2, g3, g4⟩ := fillT_rep h (places.toArray[·]?) parts.toList qs z.1 l zv.cells p1 (fun j hj => by simpa using p2 j hj) hf r1 (fun k hk => (r2 k hk).1.toT0)
    have hb : P.built t (parts.map fun p => (p.1, a.eval p.2)).toList = some cells := by
      simp only [Program.built, z1, ht, z2, hp, Array.toList_map]
      exact g1
    have hr := run_build (P := P) w t _ cells hb
    refine sim_val0 h (v := .agg cells) (B := .agg l) ?_ (show RepT1 w G e _ (.agg l) from ⟨cells, rfl, g2, fun j hj => g4 j hj⟩) he
    simp only [execOp, ho, Sem.run_bind]
    rw [show (parts.map fun (x : Nat × Operand) => match x with | (i, x) => (i, a.eval x)) = (parts.map fun p => (p.1, a.eval p.2)) from rfl, hr]
    simp only [Result.andThen_ok, Sem.run_pure]
/-- The elements of a slice, as cells that are read. -/
theorem elems_cells (h : Rel w0 L ok0 e a w G) {v : Value} {A : AV} {l : List (List AV)} (hA : RepT w G e v A) (hl : e.elems A = some l) : (l = [] ∧ ∃ ad cap, v = .slice ad 0 cap) ∨
    ∃ b off cap c, ∃ u : Nat → Nat → Value, v = .slice (some ⟨b, off, none⟩) l.length cap ∧ l.length ≤ cap ∧ (∀ i, i < l.length → (l.getD i []).length = c) ∧ (∀ i k, i < l.length → k < c → w.cell? ⟨b, off + i * c + k, none⟩ = some (u i k)) ∧
      ∀ i k, i < l.length → k < c → ((l.getD i []).getD k .unk).pure = true → RepR w G.ok (u i k) ((l.getD i []).getD k .unk) := by
  have slC : ∀ l, RepR w G.ok v (.sl l) → (l = [] ∧ ∃ ad cap, v = .slice ad 0 cap) ∨ ∃ b off cap c, ∃ u : Nat → Nat → Value, v = .slice (some ⟨b, off, none⟩) l.length cap ∧ l.length ≤ cap ∧ (∀ i, i < l.length → (l.getD i []).length = c) ∧ (∀ i k, i < l.length → k < c → w.cell? ⟨b, off + i * c + k, none⟩ = some (u i k)) ∧
      ∀ i k, i < l.length → k < c → ((l.getD i []).getD k .unk).pure = true → RepR w G.ok (u i k) ((l.getD i []).getD k .unk) := fun l hr => by
    cases hr with
    | sl0 ad cap => exact .inl ⟨rfl, ad, cap, rfl⟩
    | sl b o cap c _ u hcap hc hcell hpure hrep => exact .inr ⟨b, o, cap, c, u, rfl, hcap, hc, fun i k hi hk => (hcell i k hi hk).2, fun i k hi hk _ => hrep i k hi hk⟩
  cases A <;> simp only [Env.elems] at hl <;> try (cases hl; done)
  case nil => cases hl; exact .inl ⟨rfl, none, 0, inv_nil hA⟩
  case sl m => cases hl; exact slC _ hA
  case ref d g n q j =>
    cases hc : e.cellR d g n q j with
    | none => simp [hc] at hl
    | some C =>
      cases C <;> simp only [hc] at hl <;> try (cases hl; done)
      · cases hl; exact slC _ (hA.2.2.1 _ hc)
      · cases hl
        rename_i E c
        obtain ⟨e1, ⟨rfl, e2⟩ | ⟨b, cap, cur, e2, e3, e4, e5, e6, e7, e8, e9⟩⟩ := (ref_cell h hA hc).rowInv
        · exact .inl ⟨rfl, none, 0, e2⟩
        · refine .inr ⟨b, 0, cap, c, fun i k => cur.getD (i * c + k) undef, e2, e5, e8, fun i k hi hk => ?_, fun i k hi hk hp => (e9 i k hi hk).pureInv hp⟩
          have hlt : i * c + k < cur.size := by
            rw [e7]
            have h1 : (i + 1) * c ≤ cap * c := Nat.mul_le_mul_right c (by omega)
            rw [Nat.add_mul] at h1; omega
          rw [Nat.zero_add]
          exact blk_cell e4 _ hlt
omit [Dr] in
theorem bytesOf_spec : ∀ {l : List (List AV)} {bs : List UInt8}, bytesOf? l = some bs → bs.length = l.length ∧ ∀ i, i < l.length → ∃ n : Int, l.getD i [] = [AV.int .u8 n] ∧ bs.getD i 0 = UInt8.ofNat n.toNat
  | [], bs, h => by simp [bytesOf?] at h; subst h; exact ⟨rfl, fun i hi => absurd hi (by simp)⟩
  | x :: l, bs, h => by
    unfold bytesOf? at h
    split at h
    · rename_i heq; cases heq
    · rename_i n l' heq
      obtain ⟨rfl, rfl⟩ := List.cons.inj heq
      cases h1 : bytesOf? l with
      | none => simp [h1] at h
      | some bs' =>
        simp [h1] at h
        subst h
        obtain ⟨i1, i2⟩ := bytesOf_spec h1
        refine ⟨by simp [i1], fun i hi => ?_⟩
        cases i with
        | zero => exact ⟨n, rfl, rfl⟩
        | succ i => exact i2 i (by simpa using hi)
    · cases h
omit [Dr] in
theorem foldl_push_all : ∀ (ns : List Int) (r : ByteArray), ns.foldl (fun r n => r.push (UInt8.ofNat n.toNat)) r = ⟨r.data ++ (ns.map fun n => UInt8.ofNat n.toNat).toArray⟩
  | [], r => by simp
  | n :: ns, r => by
    simp only [List.foldl_cons]
    rw [foldl_push_all ns]
    simp [ByteArray.push]
theorem sim_cvbs (h : Rel w0 L ok0 e a w G) {s d el : TypeId} {x : Operand} {x' : X} (hx : compX x = some x') (ho : o.op = .convert s d x) (hs : P.underlying s = some (.slice el)) (hd : P.underlying d = some .string) (hel : P.underlying el = some (.int .u8))
    (he : act e (.cvbs x') = some A) : SimV P o a w G e A := by
  simp only [act] at he
  have h1 := compX_rep hx h
  cases hm : e.elems (e.get x') with
  | none => simp [hm] at he
  | some l =>
    simp only [hm] at he
    cases hbs : bytesOf? l with
    | none => simp [hbs] at he
    | some bs =>
      simp only [hbs] at he
      obtain ⟨b1, b2⟩ := bytesOf_spec hbs
      have fin : ∀ {v : Value}, a.eval x = v → (convert s d v).run P w = .ok (.string ⟨bs.toArray⟩) w → SimV P o a w G e A := by
        intro v hv hr
        refine sim_val0 h (v := .string ⟨bs.toArray⟩) ?_ (RepR.str _).toT he
        simp only [execOp, ho, Sem.run_bind, hv, hr, Result.andThen_ok, Sem.run_pure]
      rcases elems_cells h h1 hm with ⟨rfl, ad, cap, hva⟩ | ⟨b, off, cap, c, u, hva, hcap, hcc, hcell, hr⟩
      · have : bs = [] := List.eq_nil_of_length_eq_zero (by rw [b1]; rfl)
        subst this
        refine fin hva ?_
        rw [run_convert_bytes_string w s d el ad 0 cap hs hel hd]
        cases ad with
        | none => rfl
        | some ad =>
          have := run_bytesToString (P := P) w ad 0 cap [] (by simp [loadCells, loadCellsFrom])
          rw [this]
          rfl
      · refine fin hva ?_
        rw [run_convert_bytes_string w s d el (some ⟨b, off, none⟩) l.length cap hs hel hd]
        let ns : List Int := (List.range l.length).map fun i => match l.getD i [] with | [AV.int _ n] => n | _ => 0
        have hns : ∀ i, i < l.length → ns.getD i 0 = (match l.getD i [] with | [AV.int _ n] => n | _ => 0) := fun i hi => by
          simp [ns, List.getD_eq_getElem?_getD, hi]
        have hnl : ns.length = l.length := by simp [ns]
        have hload : (loadCells ⟨b, off, none⟩ l.length).run P w = .ok (ns.map (Value.int .u8)).toArray w := by
          have hl := run_loadCells_list (P := P) w ⟨b, off, none⟩ (ns.map (Value.int .u8)) (fun j v hj => by
            have hj' : j < l.length := by
              have := (List.getElem?_eq_some_iff.1 hj).1
              simpa [hnl] using this
            obtain ⟨n, q1, q2⟩ := b2 j hj'
            have hc1 : c = 1 := by rw [← hcc j hj', q1]; rfl
            subst hc1
            have h5 := hcell j 0 hj' (by omega)
            have h6 := hr j 0 hj' (by omega) (by rw [q1]; rfl)
            rw [q1] at h6
            simp only [List.getD_cons_zero] at h6
            generalize u j 0 = uj at h5 h6
            cases h6
            rw [Addr.add_lit]
            have h7 : off + j = off + j * 1 + 0 := by omega
            rw [h7, h5]
            have h8 : ns[j]? = some (ns.getD j 0) := by simp [List.getD_eq_getElem?_getD, hnl, hj']
            rw [List.getElem?_map, h8, hns j hj', q1] at hj
            simp at hj
            rw [← hj])
          rw [List.length_map, hnl] at hl
          exact hl
        rw [run_bytesToString w ⟨b, off, none⟩ l.length cap ns hload, foldl_push_all]
        congr 2
        have he0 : ByteArray.empty.data = #[] := rfl
        rw [he0]
        congr 1
        apply Array.ext'
        simp only [Array.empty_append]
        apply List.ext_getElem?
        intro i
        by_cases hi : i < l.length
        · obtain ⟨n, q1, q2⟩ := b2 i hi
          have h8 : ns[i]? = some (ns.getD i 0) := by simp [List.getD_eq_getElem?_getD, hnl, hi]
          have h9 : bs[i]? = some (bs.getD i 0) := by simp [List.getD_eq_getElem?_getD, b1, hi]
          rw [List.getElem?_map, h8, h9, hns i hi, q1, q2]
          rfl
        · rw [List.getElem?_eq_none (by simp [hnl]; omega), List.getElem?_eq_none (by omega)]
end
end Go.Nv
/- BY VALUE, with trees. Part 20: variables, stores, rows that are made. -/
namespace Go.Nv
variable [Dr]
open Go.RowKit
section
variable {P : Program} {w0 w' : World} {L : Lend} {ok0 : Nat → Nat → Prop} {e : Env} {a : Act} {w : World} {G : Gh} {o : Oper} {A : AV}
variable {R : Nat → List AV → Option AV} {K : Act → World → Prop} {Q : Exit → Act → World → Prop} {e' : Env}
omit [Dr] in
theorem newBox_some {e : Env} {dst : Option Nat} {l : List AV} (h : e.newBox dst l = some e') : ∃ d, dst = some d ∧ d < e.objs.length ∧ e' = (e.setObj d ⟨e.gen d + 1, List.replicate l.length [], .box l⟩).put dst (.ptr d (e.gen d + 1) 0 [] 0) := by
  unfold Env.newBox at h
  cases dst with
  | none => cases h
  | some d =>
    simp only [Env.make] at h
    by_cases hd : d < e.objs.length
    · rw [if_pos hd] at h; cases h; exact ⟨d, rfl, hd, rfl⟩
    · rw [if_neg hd] at h; cases h
omit [Dr] in
theorem newRow_some {e : Env} {dst : Option Nat} {E c : Nat} {l : List (List AV)} (h : e.newRow dst E c l = some e') : ∃ d, dst = some d ∧ d < e.objs.length ∧ e' = (e.setObj d ⟨e.gen d + 1, List.replicate 1 [], .val [.row E c l]⟩).put dst (.ref d (e.gen d + 1) 0 [] 0) := by
  unfold Env.newRow at h
  cases dst with
  | none => cases h
  | some d =>
    simp only [Env.make] at h
    by_cases hd : d < e.objs.length
    · rw [if_pos hd] at h; cases h; exact ⟨d, rfl, hd, rfl⟩
    · rw [if_neg hd] at h; cases h
theorem sim_newbox (h : Rel w0 L ok0 e a w G) {K0 : Nat} (hK0 : e.objs.length ≤ K0) {T : TypeId} {vs : Array Value} {l : List AV} (hrun : (execOp a.eval o).run P w = .ok (.value (.pointer (some ⟨w.heap.size, 0, none⟩))) (w.alloc (.cells vs T)))
    (hs : vs.size = l.length) (hr : RepP w G K0 [] 0 (fun i => vs.getD i undef) l) (he : e.newBox o.dst l = some e') (hK : ∀ a' w' G', Rel w0 L ok0 e' a' w' G' → K a' w') : o.wp P a w K Q := by
  obtain ⟨d, hdst, hd, rfl⟩ := newBox_some he
  obtain ⟨G2, r1, r2, r3⟩ := newBox_rep h hd hK0 hr (T := T) hs (fun i hi => rfl)
  exact wp_value hrun (hK _ _ _ (r1.put o.dst r3.toT))
theorem Rel.tm {e1 : Env} (h : Rel w0 L ok0 e1 a w G) : True := trivial
theorem sim_box (h : Rel w0 L ok0 e a w G) {T : TypeId} {x : Operand} {x' : X} (hx : compX x = some x') (ho : o.op = .box T x)
    (he : evalO R e o.dst (.box x') = some e') (hK : ∀ a' w' G', Rel w0 L ok0 e' a' w' G' → K a' w') : o.wp P a w K Q := by
  simp only [evalO] at he
  cases hp : partsT (e.get x') with
  | none => simp [hp] at he
  | some l =>
    simp only [hp] at he
    cases ht : e.takes l with
    | none => simp [ht] at he
    | some r =>
      obtain ⟨ps, e1⟩ := r
      simp only [ht] at he
      obtain ⟨c1, c2⟩ := partsT_rep (compX_rep hx h) hp
      obtain ⟨t1, G1, t2, t3, t4, t5, t6⟩ := takes_rep (K := e.objs.length) (k0 := 0) (vals := fun i => (a.eval x).cells.getD i undef) h (Nat.le_refl _) c2 ht
      refine sim_newbox t2 (K0 := e.objs.length) (by rw [t4.len]; exact Nat.le_refl _) (T := T) (vs := (a.eval x).cells) ?_ (by rw [c1, t1]) t3 he hK
      simp [execOp, ho, Instr.box, newVar, newRow]
omit [Dr] in
theorem pureParts {K0 : Nat} {vals : Nat → Value} {l : List AV} (h : ∀ k, k < l.length → RepR w G.ok (vals k) (l.getD k .unk) ∧ (l.getD k .unk).pure = true) : RepP w G K0 [] 0 vals l := fun i hi => .pure (h i hi).2 (h i hi).1
theorem sim_new (h : Rel w0 L ok0 e a w G) {T : TypeId} {z : List AV × Nat × Nat} (ho : o.op = .alloc T) (hz : zeroOf P T = some z)
    (he : evalO R e o.dst (.new z.1) = some e') (hK : ∀ a' w' G', Rel w0 L ok0 e' a' w' G' → K a' w') : o.wp P a w K Q := by
  simp only [evalO] at he
  obtain ⟨i, zv, z1, z2, z3, _, _, _, _⟩ := zeroOf_spec hz
  obtain ⟨r1, r2⟩ := zero_rep z3 w G.ok
  refine sim_newbox h (K0 := e.objs.length) (Nat.le_refl _) (T := T) (vs := zv.cells) ?_ r1 (pureParts r2) he hK
  simp [execOp, ho, Instr.alloc, zeroValue, typeInfo, z1, z2, newVar, newRow]
omit [Dr] in
theorem run_storeVar {t : TypeId} {n b off : Nat} {v : Value} {T : TypeId} {cur : Array Value} (hn : sizeOf? P t = some n) (hv : v.cells.size = n) (hb : w.heap[b]? = some (.cells cur T (0, 0))) (hfit : off + n ≤ cur.size) (h1 : ∀ j, j < n → (v.cells.getD j undef).oneCell' = true) :
    (storeVar t ⟨b, off, none⟩ v).run P w = .ok () (w.setRow b (cur.toList.take off ++ v.cells.toList ++ cur.toList.drop (off + n)).toArray) := by
  have hst := run_storeCells_at P b off T v.cells.toList 0 cur w hb (by simpa [hv] using hfit) (fun u hu => by
    obtain ⟨k, hk⟩ := List.mem_iff_getElem?.1 hu
    have hlt : k < v.cells.size := by simpa using (List.getElem?_eq_some_iff.1 hk).1
    have := h1 k (by omega)
    have e1 : v.cells.getD k undef = u := by
      rw [Array.getElem?_toList] at hk
      rw [Array.getD_eq_getD_getElem?, hk]; rfl
    rwa [e1] at this)
  simp only [Nat.add_zero, Array.length_toList, hv] at hst
  simp [storeVar, run_sizeOf hn, hv, hst]
omit [Dr] in
theorem vsplice_getD (cur : Array Value) (off n : Nat) (vs : Array Value) (hv : vs.size = n) (h : off + n ≤ cur.size) (k : Nat) :
    ((cur.toList.take off ++ vs.toList ++ cur.toList.drop (off + n)).toArray).getD k undef = if k < off then cur.getD k undef else if k < off + n then vs.getD (k - off) undef else cur.getD k undef := by
  simp only [Array.getD_eq_getD_getElem?, List.getElem?_toArray, List.append_assoc]
  by_cases h1 : k < off
  · rw [if_pos h1, List.getElem?_append_left (by simp; omega), List.getElem?_take, if_pos h1, Array.getElem?_toList]
  · rw [if_neg h1, List.getElem?_append_right (by simp; omega)]
    have e1 : (cur.toList.take off).length = off := by simp; omega
    rw [e1]
    by_cases h2 : k < off + n
    · rw [if_pos h2, List.getElem?_append_left (by simp; omega), Array.getElem?_toList]
    · rw [if_neg h2, List.getElem?_append_right (by simp; omega), List.getElem?_drop, Array.getElem?_toList]
      congr 2; simp; omega
omit [Dr] in
theorem vsplice_size (cur : Array Value) (off n : Nat) (vs : Array Value) (hv : vs.size = n) (h : off + n ≤ cur.size) :
    ((cur.toList.take off ++ vs.toList ++ cur.toList.drop (off + n)).toArray).size = cur.size := by
  simp; omega
omit [Dr] in
/-- A part that is taken is one cell. -/
theorem take_one {v : Value} {A B : AV} {e1 : Env} (hA : RepT0 w G e v A) (ht : e.take1 A = some (B, e1)) : v.oneCell' = true := by
  by_cases href : ∃ d g n q j, A = .ref d g n q j
  · obtain ⟨d, g, n, q, j, rfl⟩ := href
    obtain ⟨ad, k, cap, rfl⟩ := hA.2.2.2
    rfl
  · have : e.take1 A = if A.pure = true then some (A, e) else none := by cases A <;> first | rfl | exact absurd ⟨_, _, _, _, _, rfl⟩ href
    rw [this] at ht
    by_cases hp : A.pure = true
    · exact (hA.pureOf hp).oneCell hp
    · rw [if_neg hp] at ht; cases ht
theorem takes_one : ∀ {l m : List AV} {e e1 : Env} {G : Gh} {vals : Nat → Value}, Rel w0 L ok0 e a w G → (∀ i, i < l.length → RepT0 w G e (vals i) (l.getD i .unk)) → e.takes l = some (m, e1) → ∀ i, i < l.length → (vals i).oneCell' = true
  | [], m, e, e1, G, vals, h, hl, ht => fun i hi => absurd hi (by simp)
  | A :: l, m, e, e1, G, vals, h, hl, ht => by
    simp only [Env.takes] at ht
    cases h1 : e.take1 A with
    | none => simp [h1] at ht
    | some r =>
      obtain ⟨B, e2⟩ := r
      simp only [h1] at ht
      cases h2 : e2.takes l with
      | none => simp [h2] at ht
      | some r =>
        obtain ⟨m', e3⟩ := r
        obtain ⟨G1, a1, a2, a3, a4, a5⟩ := take_rep (K := e.objs.length) (kk := 0) h (Nat.le_refl _) (hl 0 (by simp)) h1
        intro i hi
        cases i with
        | zero => exact take_one (hl 0 (by simp)) h1
        | succ i => exact takes_one (vals := fun i => vals (i + 1)) a1 (fun i hi => a3.t _ _ (by have := hl (i + 1) (by simpa using hi); simpa using this)) h2 i (by simpa using hi)
theorem sim_st (h : Rel w0 L ok0 e a w G) {t : TypeId} {p x : Operand} {p' x' : X} {n : Nat} (hp : compX p = some p') (hx : compX x = some x') (hn : sizeOf? P t = some n) (ho : o.op = .store t p x) (hdst : o.dst = none)
    (he : evalO R e o.dst (.st n p' x') = some e') (hK : ∀ a' w' G', Rel w0 L ok0 e' a' w' G' → K a' w') : o.wp P a w K Q := by
  simp only [evalO, storeA] at he
  cases hpt : partsT (e.get x') with
  | none => simp [hpt] at he
  | some l =>
    simp only [hpt] at he
    cases ht : e.takes l with
    | none => simp [ht] at he
    | some r =>
      obtain ⟨ps, e1⟩ := r
      simp only [ht] at he
      have h1 := compX_rep hp h
      cases hgp : e.get p' <;> simp only [hgp] at he h1 <;> try (cases he; done)
      rename_i d g nn q j
      obtain ⟨c1, c2⟩ := partsT_rep (compX_rep hx h) hpt
      obtain ⟨t1, G1, t2, t3, t4, t5, t6⟩ := takes_rep (K := e.objs.length) (k0 := 0) (vals := fun i => (a.eval x).cells.getD i undef) h (Nat.le_refl _) c2 ht
      have hone := takes_one (vals := fun i => (a.eval x).cells.getD i undef) h c2 ht
      cases hm : e1.cellsP d g nn q with
      | none => simp [hm] at he
      | some m =>
        simp only [hm] at he
        by_cases hb : 0 < n ∧ ps.length = n ∧ j + n ≤ m.length
        case neg => rw [if_neg hb] at he; cases he
        rw [if_pos hb] at he
        obtain ⟨b1, b2, b3⟩ := hb
        have h1' : RepT0 w G1 e1 (a.eval p) (.ptr d g nn q j) := t4.t _ _ h1
        obtain ⟨_, b, off, hv, _⟩ := h1
        rw [hv] at h1'
        obtain ⟨cur, T, ob, p1, p2, p3, p4⟩ := put_rep t2 (K := e.objs.length) (by rw [t4.len]; exact Nat.le_refl _) h1' hm t3 (by omega) (if ps.all AV.quiet = true then none else some (j, n))
          (by
            by_cases hq : ps.all AV.quiet = true
            · rw [if_pos hq]
              refine .inr ⟨rfl, fun i hi => ?_⟩
              exact List.all_eq_true.1 hq _ (by rw [List.getD_eq_getElem?_getD, List.getElem?_eq_getElem hi]; simp)
            · rw [if_neg hq]; exact .inl (by rw [b2])) (by omega)
        have hcs : (a.eval x).cells.size = n := by rw [c1, ← t1, b2]
        have hfit : off + n ≤ cur.size := by omega
        have hr := run_storeVar (P := P) (w := w) (v := a.eval x) hn hcs p1 hfit (fun i hi => hone i (by omega))
        obtain ⟨e2, G2, q1, q2, q3⟩ := p4 (cur.toList.take off ++ (a.eval x).cells.toList ++ cur.toList.drop (off + n)).toArray (vsplice_size cur off n _ hcs hfit) (fun y => by
          rw [vsplice_getD cur off n _ hcs hfit y]
          by_cases r1 : y < off
          · rw [if_pos r1, if_neg (by omega)]
          · rw [if_neg r1]
            by_cases r2 : y < off + n
            · rw [if_pos r2, if_pos (by omega)]
            · rw [if_neg r2, if_neg (by omega)])
        rw [q1] at he
        cases he
        have hput : a.put o.dst undef = a := by rw [hdst]; rfl
        refine wp_skip' (w' := w.setRow b (cur.toList.take off ++ (a.eval x).cells.toList ++ cur.toList.drop (off + n)).toArray) ?_ (by rw [hput]; exact hK _ _ _ q2)
        simp only [execOp, ho, hv, Instr.storeAt, Instr.sureAddr, Sem.run_bind, Sem.run_pure, Result.andThen_ok, hr]
omit [Dr] in
/-- What a row of the kit's own says of its block. -/
theorem own_block {base E c n : Nat} {v : Value} {xs : List Value} {w : World} (h : w.ownsRow base E c v n xs) {b cap : Nat} (hv : v = .slice (some ⟨b, 0, none⟩) n cap) : ∃ cur, w.heap[b]? = some (.cells cur E (0, 0)) ∧ n ≤ cap ∧ cap ≤ maxLen ∧ cur.size = cap * c ∧
    ∀ k, k < n * c → cur.getD k undef = xs.getD k undef := by
  rcases h.2 with ⟨hn, _⟩ | ⟨g, cap', cur, hv', h1, h2, h3, h4, h5, h6⟩
  · rw [hv] at hn; cases hn
  · rw [hv] at hv'
    simp only [Value.slice.injEq, Option.some.injEq, Addr.mk.injEq, and_true, true_and] at hv'
    obtain ⟨rfl, rfl⟩ := hv'
    refine ⟨cur, h2, h3, h4, h5, fun k hk => ?_⟩
    have hk' : k < xs.length := by rw [h.1]; exact hk
    have : cur.toList[k]? = xs[k]? := by
      rw [← h6, List.getElem?_take, if_pos hk]
    rw [Array.getD_eq_getD_getElem?, ← Array.getElem?_toList, this, List.getD_eq_getElem?_getD]
omit [Dr] in
theorem madeCells_getD (z : Array Value) (c n i j : Nat) (hz : z.size = c) (hi : i < n) (hj : j < c) : (madeCells z (n * c)).toList.getD (i * c + j) undef = z.getD j undef := by
  have hlt : i * c + j < n * c := by
    have : (i + 1) * c ≤ n * c := Nat.mul_le_mul_right c hi
    rw [Nat.add_mul] at this; omega
  have hm : (i * c + j) % c = j := by rw [Nat.add_comm, Nat.add_mul_mod_self_right]; exact Nat.mod_eq_of_lt hj
  have hj' : j < z.size := by omega
  unfold madeCells
  simp only [List.getD_eq_getElem?_getD, Array.getElem?_toList, Array.getElem?_map, Array.getElem?_range, hlt, if_true, Option.map_some, Option.getD_some, hz, hm]
  rw [getElem!_pos z j hj']
  simp [hj']
theorem sim_mk (h : Rel w0 L ok0 e a w G) {t el : TypeId} {l c : Operand} {n : X} {z : List AV × Nat × Nat} (ho : o.op = .makeSlice t l c) (ht : P.underlying t = some (.slice el)) (hz : zeroOf P el = some z) (hn : compX l = some n)
    (hlc : a.eval c = a.eval l) (he : evalO R e o.dst (.mk el z.2.1 z.2.2 z.1 n) = some e') (hK : ∀ a' w' G', Rel w0 L ok0 e' a' w' G' → K a' w') : o.wp P a w K Q := by
  simp only [evalO] at he
  have h1 := compX_rep hn h
  cases hg : e.get n <;> simp only [hg] at he h1 <;> try (cases he; done)
  rename_i k m
  by_cases hb : 0 ≤ m ∧ m * (z.2.2 : Int) ≤ 140737488355328 ∧ m ≤ 9223372036854775807
  case neg => rw [if_neg hb] at he; cases he
  rw [if_pos hb] at he
  obtain ⟨d, hdst, hd, rfl⟩ := newRow_some he
  have e1 := inv_int h1
  obtain ⟨i, zv, z1, z2, z3, z4, z5, z6, z7⟩ := zeroOf_spec hz
  obtain ⟨mn, rfl⟩ := Int.eq_ofNat_of_zero_le hb.1
  have hby : i.bytes * mn ≤ 281474976710656 := by
    have h2 := hb.2.1
    rw [← z6] at h2
    have h3 : (((mn * i.bytes : Nat)) : Int) ≤ 140737488355328 := by rw [Int.natCast_mul]; exact h2
    have h4 : mn * i.bytes ≤ 140737488355328 := by omega
    rw [Nat.mul_comm]; omega
  have hml : mn ≤ maxLen := by simp only [maxLen]; have := hb.2.2; omega
  obtain ⟨w', hr, hown, hgr⟩ := run_make_full (P := P) w 0 t el i zv i.size ht z1 z2 rfl k k mn hby hml (Nat.zero_le _)
  obtain ⟨cur, o1, o2, o3, o4, o5⟩ := own_block hown rfl
  have hold : ∀ b, b < w.heap.size → w'.heap[b]? = w.heap[b]? := fun b hb => hgr.block b hb (by simp)
  have hsame : ∀ b o, G.ok b o → SameAt w w' b o := fun b1 o1 hb1 => SameAt.of_block (hold b1 (h.okb b1 o1 hb1))
  have hzc : z.2.1 = i.size := z5.symm
  have hlen : (List.replicate ((mn : Int)).toNat z.1).length = mn := by simp
  have hget : ∀ q, q < mn → (List.replicate ((mn : Int)).toNat z.1).getD q [] = z.1 := fun q hq => by simp [List.getD_eq_getElem?_getD, hq]
  obtain ⟨G2, r1, r2, r3⟩ := newRow_rep (w' := w') (G1 := G) (b := w.heap.size) (cap := mn) (E := el) (c := z.2.1) (cur := cur) (l := List.replicate ((mn : Int)).toNat z.1) h hd
    ⟨⟨by rw [hgr.os]; exact h.fr.os, by rw [hgr.tape]; exact h.fr.tape, by rw [hgr.output]; exact h.fr.output, Nat.le_trans h.fr.size hgr.size, fun k hk hL => by rw [hold k (by have := h.fr.size; omega)]; exact h.fr.block k hk hL, fun dd => Nat.le_trans (h.fr.drawn dd) (run_drawn _ _ hr)⟩, hgr.size, hsame, rfl, rfl, rfl,
      fun d1 q1 x b1 _ _ hb1 => ⟨hb1, fun hh => by have := (h.own b1 _ hb1).1; omega, hold b1 (h.own b1 _ hb1).1⟩, fun _ _ _ _ _ => rfl, fun b1 p hp => ⟨p, hp⟩⟩
    o1 (.inl h.fr.size) (fun o hh => by have := h.okb _ _ hh; omega) (by rw [hlen]; exact o2) o3 (by rw [hzc]; exact o4) (fun q hq => by rw [hlen] at hq; rw [hget q hq, ← z4, z5])
    (fun q k hq hk => by
      rw [hlen] at hq
      rw [hget q hq, hzc, o5 (q * i.size + k) (by
        have h5 : (q + 1) * i.size ≤ mn * i.size := Nat.mul_le_mul_right _ hq
        rw [Nat.add_mul] at h5; omega), madeCells_getD zv.cells i.size mn q k z7 hq (by omega)]
      have := (zero_rep z3 w' G.ok).2 k (by omega)
      exact .pure this.2 this.1)
    (fun q1 j1 hb1 => by have := (h.own _ _ hb1).1; omega)
  rw [hlen] at r3
  refine wp_value (v := .slice (some ⟨w.heap.size, 0, none⟩) mn mn) (w' := w') ?_ (hK _ _ _ (r1.put o.dst r3.toT))
  simp only [execOp, ho, Sem.run_bind, hlc, e1, hr, Result.andThen_ok, Sem.run_pure]
end
end Go.Nv
/- BY VALUE, with trees. Part 21: rows that are lengthened. -/
namespace Go.Nv
variable [Dr]
open Go.RowKit
section
variable {P : Program} {w0 w' : World} {L : Lend} {ok0 : Nat → Nat → Prop} {e : Env} {a : Act} {w : World} {G : Gh} {o : Oper} {A : AV}
variable {R : Nat → List AV → Option AV} {K : Act → World → Prop} {Q : Exit → Act → World → Prop} {e' : Env}
omit [Dr] in
theorem append_law {t ty el : TypeId} {i : TypeInfo} {z : Value} (ht : P.underlying t = some (.slice el)) (hi : P.info? el = some i) (hz : i.zero = some z) (hzs : z.cells.size = i.size) (hsz : 0 < i.size)
    {v : Value} {n : Nat} {xs : List Value} (hown : w.ownsRow 0 el i.size v n xs) {ad : Addr} {m c : Nat} {news : List Value} (hl : news.length = m * i.size) (hnews : ∀ j u, news[j]? = some u → w.cell? (ad.add j) = some u) (h1 : ∀ u ∈ news, u.oneCell' = true)
    (hm : 0 < m) (h63 : n + m ≤ maxLen) (hbytes : (n + m) * i.bytes ≤ 140737488355328) (hbase : 0 ≤ w.heap.size) :
    ∃ v' w', (Builtin.append_ #[t, t] ty #[v, .slice (some ad) m c]).run P w = .ok v' w' ∧ w'.ownsRow 0 el i.size v' (n + m) (xs ++ news) ∧ w.grownBy w' v.ownBlock ∧
      (∀ b, v.ownBlock = some b → ∀ o, o < n * i.size → w'.cell? ⟨b, o, none⟩ = w.cell? ⟨b, o, none⟩) ∧ (v'.ownBlock = v.ownBlock ∨ v'.ownBlock = some w.heap.size) := by
  have hsmall : n + m ≤ 9223372036854775807 := by simp only [maxLen] at h63; omega
  have hlen : (xs ++ news).length = (n + m) * i.size := by rw [List.length_append, hown.1, hl, Nat.add_mul]
  have grown : ∀ (old : Nat), old < n + m → ∀ (row : Option Nat),
      (w.drew.alloc (.cells (xs.toArray ++ news.toArray ++ Builtin.zeroCells z.cells (grownCap w (n + m) old el - (n + m))) el)).ownsRow 0 el i.size
        (.slice (some ⟨w.heap.size, 0, none⟩) (n + m) (grownCap w (n + m) old el)) (n + m) (xs ++ news) ∧
      w.grownBy (w.drew.alloc (.cells (xs.toArray ++ news.toArray ++ Builtin.zeroCells z.cells (grownCap w (n + m) old el - (n + m))) el)) row := by
    intro old ho row
    have hge := grownCap_ge w (n + m) old el
    have hcm : grownCap w (n + m) old el ≤ maxLen := grownCap_le_maxLen w (n + m) old el h63
    refine ⟨⟨hlen, .inr ⟨w.heap.size, _, _, rfl, hbase, heap_alloc_new w.drew _, hge, hcm, ?_, ?_⟩⟩, ⟨rfl, rfl, rfl, by simp, fun k hk _ => heap_alloc_old w.drew _ k hk⟩⟩
    · simp only [Array.size_append, List.size_toArray, size_zeroCells, hzs, hown.1, hl, ← Nat.add_mul]
      congr 1
      omega
    · simp only [Array.toList_append, List.append_assoc]
      rw [← List.append_assoc, ← hlen]
      exact List.take_left
  rcases hown.2 with ⟨rfl, rfl⟩ | ⟨g, cap, cur, rfl, hbg, hg, hnc, hcm, hcs, htake⟩
  · have hx : xs = [] := List.eq_nil_of_length_eq_zero (by simpa using hown.1)
    subst hx
    have hr := run_append_nil (P := P) w t ty el i z ht hi hz ad m c news hl hnews (by omega) (by omega) (by have hb := hbytes; simp only [Nat.zero_add] at hb; omega)
    have hgr := grown 0 (by omega) (Value.ownBlock (.slice none 0 0))
    simp only [Nat.zero_add, List.nil_append, Array.empty_append] at hgr ⊢
    exact ⟨_, _, hr, hgr.1, hgr.2, fun b hb => by simp [Value.ownBlock] at hb, .inr rfl⟩
  · by_cases hroom : n + m ≤ cap
    · have hfit : n * i.size + news.length ≤ cur.size := by rw [hl, hcs, ← Nat.add_mul]; exact Nat.mul_le_mul_right _ hroom
      have hr := run_append_room (P := P) w t ty el i ht hi g n cap cur hg ad m c news hl hnews h1 hroom hfit
      refine ⟨_, _, hr, ⟨hlen, .inr ⟨g, cap, _, rfl, hbg, setRow_heap w g cur _ el _ hg, hroom, hcm, ?_, ?_⟩⟩, ⟨rfl, rfl, rfl, by simp, fun k _ hk => setRow_other w g k _ (fun e => hk (by simp [Value.ownBlock, e]))⟩, fun b hb o ho => ?_, .inl rfl⟩
      · simp only [List.size_toArray, List.length_append, List.length_take, List.length_drop, Array.length_toList]
        omega
      · rw [htake, ← hlen]
        exact List.take_left
      · have : g = b := by simpa [Value.ownBlock] using hb
        subst this
        rw [cell_of_row _ g o _ el _ (setRow_heap w g cur _ el _ hg), cell_of_row w g o cur el (0, 0) hg]
        simp only [List.append_assoc, List.getElem?_toArray]
        rw [List.getElem?_append_left (by simp; omega), List.getElem?_take, if_pos ho, Array.getElem?_toList]
    · have holds : ∀ j u, xs[j]? = some u → w.cell? ((⟨g, 0, none⟩ : Addr).add j) = some u := hown.cells (g := g) rfl
      have hr := run_append_grow (P := P) w t ty el i z ht hi hz ⟨g, 0, none⟩ n cap xs hown.1 holds ad m c news hl hnews (by omega) (by omega) (growslice_fits (by omega) hbytes)
      have hgr := grown cap (by omega) (Value.ownBlock (.slice (some ⟨g, 0, none⟩) n cap))
      refine ⟨_, _, hr, hgr.1, hgr.2, fun b hb o ho => ?_, .inr rfl⟩
      have hbl : g < w.heap.size := (Array.getElem?_eq_some_iff.1 hg).1
      have : g = b := by simpa [Value.ownBlock] using hb
      subst this
      exact World.cell?_of_block (heap_alloc_old w.drew _ g hbl)
omit [Dr] in
theorem append_zero {t ty el : TypeId} {i : TypeInfo} (ht : P.underlying t = some (.slice el)) (hi : P.info? el = some i)
    {v : Value} {n : Nat} {xs : List Value} (hown : w.ownsRow 0 el i.size v n xs) (ad : Option Addr) (c : Nat) :
    (Builtin.append_ #[t, t] ty #[v, .slice ad 0 c]).run P w = .ok v w := by
  have hf : ∀ w : World, (Builtin.firstCells i.size 0 (.slice ad 0 c)).run P w = .ok #[] w := by
    intro w
    cases ad with
    | none => simp [Builtin.firstCells]
    | some ad => simp [Builtin.firstCells, loadCells, loadCellsFrom]
  rcases hown.2 with ⟨rfl, rfl⟩ | ⟨g, cap, cur, rfl, _, _, hnc, _⟩
  · simp [Builtin.append_, run_underlying ht, sizeOf, typeInfo, hi, Builtin.lenOf, hf]
  · simp [Builtin.append_, run_underlying ht, sizeOf, typeInfo, hi, Builtin.lenOf, hf, hnc, storeCells]
omit [Dr] in
/-- A row of one's own, as the kit tells it. -/
theorem row_own {d : Nat} {q : Path} {j E c : Nat} {v : Value} {l : List (List AV)} (H : RepC w G d q j v (.row E c l)) : ∃ xs : List Value, w.ownsRow 0 E c v l.length xs ∧ (∀ i k, i < l.length → k < c → RepC w G d ((j, c, i) :: q) k (xs.getD (i * c + k) undef) ((l.getD i []).getD k .unk)) ∧
    (∀ i, i < l.length → (l.getD i []).length = c) ∧ ∀ b, v.ownBlock = some b → G.own b = some (d, q, some j) := by
  obtain ⟨e1, ⟨rfl, rfl⟩ | ⟨b, cap, cur, rfl, e3, e4, e5, e6, e7, e8, e9⟩⟩ := H.rowInv
  · exact ⟨[], ⟨by simp, .inl ⟨rfl, rfl⟩⟩, fun i k hi => absurd hi (by simp), fun i hi => absurd hi (by simp), fun b hb => by simp [Value.ownBlock] at hb⟩
  · have hle : l.length * c ≤ cap * c := Nat.mul_le_mul_right _ e5
    have hlen : (cur.toList.take (l.length * c)).length = l.length * c := List.length_take_of_le (by rw [Array.length_toList (xs := cur), e7]; exact hle)
    refine ⟨cur.toList.take (l.length * c), ⟨hlen, .inr ⟨b, cap, cur, rfl, Nat.zero_le _, e4, e5, e6, e7, rfl⟩⟩, fun i k hi hk => ?_, e8, fun b' hb' => by simp [Value.ownBlock] at hb'; subst hb'; exact e3⟩
    have hlt : i * c + k < l.length * c := by
      have h1 : (i + 1) * c ≤ l.length * c := Nat.mul_le_mul_right c hi
      rw [Nat.add_mul] at h1; omega
    have : (cur.toList.take (l.length * c)).getD (i * c + k) undef = cur.getD (i * c + k) undef := by
      rw [List.getD_eq_getElem?_getD, List.getElem?_take, if_pos hlt, Array.getElem?_toList, Array.getD_eq_getD_getElem?]
    rw [this]
    exact e9 i k hi hk
def srcE (c : Nat) (t : Nat) : Path × Nat := ([(0, c, t / c)], t % c)
def tgtE (c n : Nat) (t : Nat) : Path × Nat := ([(0, c, n + t / c)], t % c)
/-- A row that is lengthened: told behind another key. -/
theorem append_rep (h : Rel w0 L ok0 e a w G) {d K K2 : Nat} (hd : d < e.objs.length) (hK : e.objs.length ≤ K) (hK2 : e.objs.length ≤ K2) (hKK : K ≠ K2) {E c : Nat} (hc : 0 < c) {l m : List (List AV)} {v v' : Value} {xs news : List Value}
    (hown0 : w.ownsRow 0 E c v l.length xs) (hl : ∀ i k, i < l.length → k < c → RepC w G K [(0, c, i)] k (xs.getD (i * c + k) undef) ((l.getD i []).getD k .unk)) (hll : ∀ i, i < l.length → (l.getD i []).length = c)
    (hlab : ∀ b, v.ownBlock = some b → G.own b = some (K, [], some 0))
    (hm : ∀ i, i < m.length → (m.getD i []).length = c)
    {M : Nat} (hM : (M = 0 ∧ ∀ i k, i < m.length → k < c → RepR w G.ok (news.getD (i * c + k) undef) ((m.getD i []).getD k .unk) ∧ ((m.getD i []).getD k .unk).pure = true) ∨
      (M = m.length * c ∧ ∀ i k, i < m.length → k < c → RepC w G K2 [(0, c, i)] k (news.getD (i * c + k) undef) ((m.getD i []).getD k .unk)))
    (hown : w'.ownsRow 0 E c v' (l.length + m.length) (xs ++ news)) (hgr : w.grownBy w' v.ownBlock)
    (hkeep : ∀ b, v.ownBlock = some b → ∀ o, o < l.length * c → w'.cell? ⟨b, o, none⟩ = w.cell? ⟨b, o, none⟩) (hblk : v'.ownBlock = v.ownBlock ∨ v'.ownBlock = some w.heap.size) (hdr : w.drawn ≤ w'.drawn) :
    ∃ G2, Rel w0 L ok0 (e.setObj d ⟨e.gen d + 1, List.replicate 1 [], .val [.row E c (l ++ m)]⟩) a w' G2 ∧ Keeps w w' G G2 e (e.setObj d ⟨e.gen d + 1, List.replicate 1 [], .val [.row E c (l ++ m)]⟩) ∧
      RepT0 w' G2 (e.setObj d ⟨e.gen d + 1, List.replicate 1 [], .val [.row E c (l ++ m)]⟩) v' (.ref d (e.gen d + 1) 0 [] 0) := by
  have hdK : d ≠ K := by omega
  have hdK2 : d ≠ K2 := by omega
  rcases hown.2 with ⟨hn, hz⟩ | ⟨b, cap, cur, hv', _, k2, k3, k4, k5, k6⟩
  · -- nothing at all
    have h1 : l = [] := List.eq_nil_of_length_eq_zero (by omega)
    have h2 : m = [] := List.eq_nil_of_length_eq_zero (by omega)
    subst h1; subst h2
    subst hn
    have hvn : v.ownBlock = none := by
      rcases hblk with hb | hb
      · rw [← hb]; rfl
      · simp [Value.ownBlock] at hb
    have hsame : ∀ b, b < w.heap.size → w'.heap[b]? = w.heap[b]? := fun b hb => hgr.block b hb (by rw [hvn]; simp)
    have hR : Rel w0 L ok0 e a w' G ∧ Keeps w w' G G e e := by
      have hsm : ∀ b o, G.ok b o → SameAt w w' b o := fun b1 o1 hb1 => SameAt.of_block (hsame b1 (h.okb b1 o1 hb1))
      have hc : ∀ {d1 q1 j1 v A}, RepC w G d1 q1 j1 v A → RepC w' G d1 q1 j1 v A := fun hh => hh.mono (fun _ _ hh => hh) hsm (fun q2 j2 _ => ⟨rfl, fun b1 hb1 => ⟨hb1, hsame b1 (h.own b1 _ hb1).1⟩⟩)
      have ht : ∀ v A, RepT0 w G e v A → RepT0 w' G e v A := fun v A hh => by
        cases A
        case ref d1 g1 n1 q1 j1 => exact ⟨hh.1, hh.2.1, fun l hl => (hh.2.2.1 l hl).mono (fun _ _ hh => hh) hsm, hh.2.2.2⟩
        case ptr => exact hh
        case mref => exact hh
        all_goals exact RepR.mono (fun _ _ hh => hh) hsm hh
      refine ⟨⟨⟨by rw [hgr.os]; exact h.fr.os, by rw [hgr.tape]; exact h.fr.tape, by rw [hgr.output]; exact h.fr.output, Nat.le_trans h.fr.size hgr.size, fun k hk hL => by rw [hsame k (by have := h.fr.size; omega)]; exact h.fr.block k hk hL, fun dd => Nat.le_trans (h.fr.drawn dd) hdr⟩, h.size,
        fun t htt => RepT.of0 ht (h.tmps t htt), h.defers, fun b o hb => Nat.lt_of_lt_of_le (h.okb b o hb) hgr.size, h.okm, h.ok0, fun b p hp => ⟨Nat.lt_of_lt_of_le (h.own b p hp).1 hgr.size, (h.own b p hp).2⟩, fun d1 hd1 => ?_, h.vlen, fun p hp => ht _ _ (h.pins p hp)⟩, ht, rfl, rfl⟩
      have hO := h.objs d1 hd1
      cases hk : e.kind d1 with
      | dead => trivial
      | box lb =>
        rw [hk] at hO
        obtain ⟨x1, vs, T, x2, x3, x4⟩ := hO
        exact ⟨x1, vs, T, by rw [hsame _ (h.own _ _ x1).1]; exact x2, x3, fun i hi => hc (x4 i hi)⟩
      | val lv => rw [hk] at hO; exact fun i hi => hc (hO i hi)
      | map lm =>
        rw [hk] at hO
        obtain ⟨x1, es, cl, x2, x3, x4⟩ := hO
        refine ⟨x1, es, cl, by rw [hsame _ (h.own _ _ x1).1]; exact x2, x3, fun i hi => ?_⟩
        obtain ⟨y1, y2, y3, y4⟩ := x4 i hi
        exact ⟨y1.mono (fun _ _ hh => hh) hsm, y2, y3.mono (fun _ _ hh => hh) hsm, y4⟩
    obtain ⟨G2, r1, r2, r3⟩ := newNil_rep (E := E) (c := c) hR.1 hd
    exact ⟨G2, r1, hR.2.trans r2, r3⟩
  · have hbk : v'.ownBlock = some b := by rw [hv']; rfl
    obtain ⟨cur2, y1, y2, y3, y4, y5⟩ := own_block hown hv'
    have : cur2 = cur := by rw [k2] at y1; cases y1; rfl
    subst this
    let Ga := G.reloc K [] 0 d [] 0
    let Gm := Ga.relocF K2 d (srcE c) (tgtE c l.length) M
    have hb0 : ∀ b0, v.ownBlock = some b0 → b0 < w.heap.size ∧ (w0.heap.size ≤ b0 ∨ L b0) ∧ ∀ o, ¬ G.ok b0 o := fun b0 hb0 => h.own b0 _ (hlab b0 hb0)
    have hold : ∀ b1, b1 < w.heap.size → v.ownBlock ≠ some b1 → w'.heap[b1]? = w.heap[b1]? := fun b1 hb1 hne => hgr.block b1 hb1 (fun hh => hne hh.symm)
    have hsm : ∀ b o, G.ok b o → SameAt w w' b o := fun b1 o1 hb1 => SameAt.of_block (hold b1 (h.okb b1 o1 hb1) (fun hh => (hb0 b1 hh).2.2 o1 hb1))
    have hGmok : Gm.ok = G.ok := Gh.relocF_ok M
    have hbb : w0.heap.size ≤ b ∨ L b := by
      rcases hblk with hh | hh
      · exact (hb0 b (by rw [← hh]; exact hbk)).2.1
      · rw [hbk] at hh; cases hh; exact .inl h.fr.size
    have hbok : ∀ o, ¬ G.ok b o := by
      rcases hblk with hh | hh
      · exact (hb0 b (by rw [← hh]; exact hbk)).2.2
      · rw [hbk] at hh; cases hh; exact fun o hh => by have := h.okb _ _ hh; omega
    have hsrcN : ∀ t, (srcE c t).1 ≠ [] := fun t => by simp [srcE]
    -- the old elements
    have hoS : ∀ i k, i < l.length → k < c → RepC w Gm d [(0, c, i)] k (xs.getD (i * c + k) undef) ((l.getD i []).getD k .unk) := fun i k hi hk => by
      have h1 : RepC w Ga d [(0, c, i)] k (xs.getD (i * c + k) undef) ((l.getD i []).getD k .unk) := by
        refine (hl i k hi hk).move (G := G) (G' := Ga) (fun _ _ hh => hh) ⟨?_, fun b1 hb1 => ?_⟩ (fun s c2 i2 k2 => ⟨?_, fun b1 hb1 => ?_⟩)
        · have := reloc_below [] 0 [] 0 c i [] k
          simp only [List.nil_append] at this
          simp only [Ga, Gh.reloc, if_true, this]
        · have := reloc_below [] 0 [] 0 c i [] k
          simp only [List.nil_append] at this
          simp only [Ga, Gh.reloc, hb1, if_true, this]
        · have := reloc_below [] 0 [] 0 c i (s ++ [(k, c2, i2)]) k2
          simp only [List.append_assoc, List.cons_append, List.nil_append] at this
          simp only [Ga, Gh.reloc, if_true, this]
        · have := reloc_below [] 0 [] 0 c i (s ++ [(k, c2, i2)]) k2
          simp only [List.append_assoc, List.cons_append, List.nil_append] at this
          simp only [Ga, Gh.reloc, hb1, if_true, this]
      refine h1.relocF_other M (fun q2 j2 _ hh => hdK2 hh.1) (fun q2 j2 hu hh => ?_)
      obtain ⟨_, t, _, ht⟩ := hh
      have ht1 : Und [(0, c, l.length + t / c)] (t % c) q2 j2 := ht
      have h9 := (hu.apartI ht1).2
      rw [h9] at hi
      exact absurd hi (Nat.not_lt.2 (Nat.le_add_right _ _))
    -- the new ones
    have hnS : ∀ i k, i < m.length → k < c → RepC w Gm d [(0, c, l.length + i)] k (news.getD (i * c + k) undef) ((m.getD i []).getD k .unk) := fun i k hi hk => by
      rcases hM with ⟨hM0, hp⟩ | ⟨hM1, hp⟩
      · exact .pure (hp i k hi hk).2 (by rw [hGmok]; exact (hp i k hi hk).1)
      · have hsA : Apart (srcE c) (m.length * c) := by
          have := apart_row c 0 (m.length * c) hc
          simpa [srcE, Apart] using this
        have htA : Apart (tgtE c l.length) (m.length * c) := apart_row c l.length (m.length * c) hc
        have hidx : ∀ i k, i < m.length → k < c → i * c + k < m.length * c ∧ (i * c + k) / c = i ∧ (i * c + k) % c = k := fun i k hi hk => by
          refine ⟨?_, ?_, ?_⟩
          · have h1 : (i + 1) * c ≤ m.length * c := Nat.mul_le_mul_right c hi
            rw [Nat.add_mul] at h1; omega
          · rw [Nat.add_comm, Nat.add_mul_div_right _ _ hc, Nat.div_eq_of_lt hk, Nat.zero_add]
          · rw [Nat.add_comm, Nat.add_mul_mod_self_right]; exact Nat.mod_eq_of_lt hk
        have hH : ∀ t, t < m.length * c → RepC w Ga K2 (srcE c t).1 (srcE c t).2 (news.getD t undef) ((m.getD (t / c) []).getD (t % c) .unk) := fun t ht => by
          have hi' : t / c < m.length := (Nat.div_lt_iff_lt_mul hc).2 ht
          have hk' : t % c < c := Nat.mod_lt _ hc
          have := hp (t / c) (t % c) hi' hk'
          have e5 : t / c * c + t % c = t := by rw [Nat.mul_comm]; exact Nat.div_add_mod t c
          rw [e5] at this
          exact this.reloc_other (fun q2 j2 _ hh => hKK hh.1.symm) (fun q2 j2 _ hh => hdK2 hh.1.symm)
        have hq := (relocF_parts hdK2 hsA htA hH (m.length * c) (Nat.le_refl _)).1 (i * c + k) (hidx i k hi hk).1
        simp only [tgtE, (hidx i k hi hk).2.1, (hidx i k hi hk).2.2] at hq
        rw [← hM1] at hq
        exact hq
    -- whose the block is
    have hGab : ∀ p, G.own b = some p → v.ownBlock = some b ∧ p = (K, [], some 0) := fun p hp => by
      rcases hblk with hh | hh
      · have := hlab b (by rw [← hh]; exact hbk)
        rw [hp] at this; cases this; exact ⟨by rw [← hh]; exact hbk, rfl⟩
      · rw [hbk] at hh; cases hh; have := (h.own _ _ hp).1; omega
    have hcellsW : ∀ {q1 : Path} {k : Nat} {u : Value} {B : AV}, q1 ≠ [] → RepC w Gm d q1 k u B → RepC w' Gm d q1 k u B := fun {q1 k u B} hq1 hh => by
      refine hh.mono (fun _ _ hh => hh) (fun b1 o1 hb1 => hsm b1 o1 (by rw [hGmok] at hb1; exact hb1)) (fun q2 j2 hu => ⟨rfl, fun b1 hb1 => ⟨hb1, ?_⟩⟩)
      obtain ⟨p', hp'⟩ := Gh.relocF_inv _ hb1
      obtain ⟨p2, hp2⟩ := Gh.reloc_own_inv hp'
      refine hold b1 (h.own b1 _ hp2).1 (fun hh => ?_)
      -- the row's own block is told at its root
      have hlb := hlab b1 hh
      have hGa : Ga.own b1 = some (d, [], some 0) := by simp only [Ga, Gh.reloc, hlb, if_true, reloc_self]
      have hGm : Gm.own b1 = some (d, [], some 0) := Gh.relocF_other hGa M (fun hh => hdK2 hh.1)
      rw [hGm] at hb1; cases hb1
      rcases hu with ⟨hh, _⟩ | ⟨s, c2, i2, hh⟩
      · exact hq1 hh.symm
      · have := congrArg List.length hh; simp at this
    have hlenlm : (l ++ m).length = l.length + m.length := by simp
    have hx1 := hown0.1
    obtain ⟨G2, r1, r2, r3⟩ := newRow_rep (w' := w') (G1 := Gm) (b := b) (cap := cap) (E := E) (c := c) (cur := cur2) (l := l ++ m) h hd
      ⟨⟨by rw [hgr.os]; exact h.fr.os, by rw [hgr.tape]; exact h.fr.tape, by rw [hgr.output]; exact h.fr.output, Nat.le_trans h.fr.size hgr.size, fun k hk hL => by
          rw [hold k (by have := h.fr.size; omega) (fun hh => by rcases (hb0 k hh).2.1 with h5 | h5; omega; exact hL h5)]; exact h.fr.block k hk hL, fun dd => Nat.le_trans (h.fr.drawn dd) hdr⟩, hgr.size, hsm, hGmok, Gh.relocF_bl M, Gh.relocF_vs M,
        fun d1 q1 x b1 hd1 hdd hb1 => by
          have hne : v.ownBlock ≠ some b1 := fun hh => by rw [hlab b1 hh] at hb1; cases hb1; omega
          refine ⟨?_, fun hh => ?_, hold b1 (h.own b1 _ hb1).1 hne⟩
          · cases x with
            | none => exact Gh.relocF_box (Gh.reloc_own_box hb1) M
            | some j1 => exact Gh.relocF_other (Gh.reloc_own_other hb1 (fun hh => by omega)) M (fun hh => by omega)
          · subst hh; exact hne (hGab _ hb1).1,
        fun d1 q1 j1 hd1 hdd => by
          show Gm.h d1 q1 j1 = _
          rw [Gh.relocF_h M (fun hh => hdd hh.1)]
          exact Gh.reloc_h_other (fun hh => hdd hh.1),
        fun b1 p hp => by
          obtain ⟨p', hp'⟩ := Gh.relocF_inv _ hp
          exact Gh.reloc_own_inv hp'⟩
      k2 hbb hbok (by rw [hlenlm]; exact k3) k4 k5 (fun i hi => by
        by_cases h1 : i < l.length
        · have : (l ++ m).getD i [] = l.getD i [] := by simp [List.getD_eq_getElem?_getD, List.getElem?_append_left h1]
          rw [this]; exact hll i h1
        · have : (l ++ m).getD i [] = m.getD (i - l.length) [] := by simp [List.getD_eq_getElem?_getD, List.getElem?_append_right (Nat.le_of_not_lt h1)]
          rw [this]; exact hm _ (by rw [hlenlm] at hi; omega))
      (fun i k hi hk => by
        rw [hlenlm] at hi
        have hlt : i * c + k < (l.length + m.length) * c := by
          have h1 : (i + 1) * c ≤ (l.length + m.length) * c := Nat.mul_le_mul_right c hi
          rw [Nat.add_mul] at h1; omega
        rw [y5 _ hlt]
        by_cases h1 : i < l.length
        · have hltx : i * c + k < xs.length := by
            rw [hx1]
            have h2 : (i + 1) * c ≤ l.length * c := Nat.mul_le_mul_right c h1
            rw [Nat.add_mul] at h2; omega
          have e1 : (xs ++ news).getD (i * c + k) undef = xs.getD (i * c + k) undef := by simp [List.getD_eq_getElem?_getD, List.getElem?_append_left hltx]
          have e2 : (l ++ m).getD i [] = l.getD i [] := by simp [List.getD_eq_getElem?_getD, List.getElem?_append_left h1]
          rw [e1, e2]
          exact hcellsW (by simp) (hoS i k h1 hk)
        · obtain ⟨i', rfl⟩ := Nat.exists_eq_add_of_le (Nat.le_of_not_lt h1)
          have hge : xs.length ≤ (l.length + i') * c + k := by rw [hx1, Nat.add_mul]; omega
          have e3 : (l.length + i') * c + k - xs.length = i' * c + k := by rw [hx1, Nat.add_mul]; omega
          have e1 : (xs ++ news).getD ((l.length + i') * c + k) undef = news.getD (i' * c + k) undef := by simp [List.getD_eq_getElem?_getD, List.getElem?_append_right hge, e3]
          have e2 : (l ++ m).getD (l.length + i') [] = m.getD i' [] := by simp [List.getD_eq_getElem?_getD, List.getElem?_append_right (Nat.le_add_right _ _)]
          rw [e1, e2]
          exact hcellsW (by simp) (hnS i' k (by omega) hk))
      (fun q1 j1 hb1 => by
        obtain ⟨p', hp'⟩ := Gh.relocF_inv _ hb1
        obtain ⟨p2, hp2⟩ := Gh.reloc_own_inv hp'
        have hlb := (hGab p2 hp2)
        have hlb2 := hlab b hlb.1
        have hGa : Ga.own b = some (d, [], some 0) := by simp only [Ga, Gh.reloc, hlb2, if_true, reloc_self]
        have hGm : Gm.own b = some (d, [], some 0) := Gh.relocF_other hGa M (fun hh => hdK2 hh.1)
        rw [hGm] at hb1; cases hb1; rfl)
    rw [hlenlm] at r3
    rw [hv']
    exact ⟨G2, r1, r2, r3⟩
end
end Go.Nv
/- BY VALUE, with trees. Part 22: what appends, copies and lists. -/
namespace Go.Nv
variable [Dr]
open Go.RowKit
section
variable {P : Program} {w0 w' : World} {L : Lend} {ok0 : Nat → Nat → Prop} {e : Env} {a : Act} {w : World} {G : Gh} {o : Oper} {A : AV}
variable {R : Nat → List AV → Option AV} {K : Act → World → Prop} {Q : Exit → Act → World → Prop} {e' : Env}
omit [Dr] in
theorem gridLen {α : Type} (f : Nat → Nat → α) (n c : Nat) : ((List.range (n * c)).map fun t => f (t / c) (t % c)).length = n * c := by simp
omit [Dr] in
theorem gridGet {f : Nat → Nat → Value} {n c i k : Nat} (hi : i < n) (hk : k < c) : ((List.range (n * c)).map fun t => f (t / c) (t % c)).getD (i * c + k) undef = f i k := by
  have hlt : i * c + k < n * c := by
    have h1 : (i + 1) * c ≤ n * c := Nat.mul_le_mul_right c hi
    rw [Nat.add_mul] at h1; omega
  have h2 : (i * c + k) / c = i := by rw [Nat.add_comm, Nat.add_mul_div_right _ _ (by omega), Nat.div_eq_of_lt hk, Nat.zero_add]
  have h3 : (i * c + k) % c = k := by rw [Nat.add_comm, Nat.add_mul_mod_self_right]; exact Nat.mod_eq_of_lt hk
  simp [List.getD_eq_getElem?_getD, hlt, h2, h3]
/-- What is appended: cells in memory; pure, or taken behind a key that nobody has. -/
structure Grabbed (w : World) (G : Gh) (K2 : Nat) (c : Nat) (vx : Value) (m : List (List AV)) (news : List Value) (M : Nat) : Prop where
  len : ∀ i, i < m.length → (m.getD i []).length = c
  size : news.length = m.length * c
  one : ∀ u ∈ news, u.oneCell' = true
  reps : (M = 0 ∧ ∀ i k, i < m.length → k < c → RepR w G.ok (news.getD (i * c + k) undef) ((m.getD i []).getD k .unk) ∧ ((m.getD i []).getD k .unk).pure = true) ∨
      (M = m.length * c ∧ ∀ i k, i < m.length → k < c → RepC w G K2 [(0, c, i)] k (news.getD (i * c + k) undef) ((m.getD i []).getD k .unk))
  val : (m = [] ∧ ∃ ad cap, vx = .slice ad 0 cap) ∨ ∃ ad cap, vx = .slice (some ad) m.length cap ∧ ∀ j u, news[j]? = some u → w.cell? (ad.add j) = some u
omit [Dr] in
theorem mem_grid {l : List Value} {n c : Nat} (hl : l.length = n * c) {u : Value} (hu : u ∈ l) : ∃ i k, i < n ∧ k < c ∧ l.getD (i * c + k) undef = u := by
  obtain ⟨t, ht⟩ := List.mem_iff_getElem?.1 hu
  have hlt : t < n * c := by rw [← hl]; exact (List.getElem?_eq_some_iff.1 ht).1
  have hc : 0 < c := by
    cases c with
    | zero => simp at hlt
    | succ c => omega
  refine ⟨t / c, t % c, (Nat.div_lt_iff_lt_mul hc).2 hlt, Nat.mod_lt _ hc, ?_⟩
  have e5 : t / c * c + t % c = t := by rw [Nat.mul_comm]; exact Nat.div_add_mod t c
  rw [e5, List.getD_eq_getElem?_getD, ht]; rfl
theorem grab_pure (h : Rel w0 L ok0 e a w G) (K2 : Nat) {c : Nat} {vx : Value} {A : AV} {m : List (List AV)} (hA : RepT w G e vx A) (hl : e.elems A = some m) (hp : allPure m = true) (hm : ∀ i, i < m.length → (m.getD i []).length = c) :
    ∃ news, Grabbed w G K2 c vx m news 0 := by
  rcases elems_cells h hA hl with ⟨rfl, ad, cap, hv⟩ | ⟨b, off, cap, c', u, hv, hcap, hcc, hcell, hr⟩
  · exact ⟨[], ⟨fun i hi => absurd hi (by simp), by simp, fun u hu => by simp at hu, .inl ⟨rfl, fun i k hi => absurd hi (by simp)⟩, .inl ⟨rfl, ad, cap, hv⟩⟩⟩
  · have hpp : ∀ i k, i < m.length → k < c → ((m.getD i []).getD k .unk).pure = true := fun i k hi hk => by
      have h1 : m[i]? = some (m.getD i []) := by rw [List.getD_eq_getElem?_getD, List.getElem?_eq_getElem hi]; rfl
      have h2 := List.all_eq_true.1 hp _ (List.mem_of_getElem? h1)
      have hk' : k < (m.getD i []).length := by rw [hm i hi]; exact hk
      have h3 : (m.getD i [])[k]? = some ((m.getD i []).getD k .unk) := by rw [List.getD_eq_getElem?_getD (l := m.getD i []), List.getElem?_eq_getElem hk']; rfl
      exact List.all_eq_true.1 h2 _ (List.mem_of_getElem? h3)
    have hce : ∀ i, i < m.length → c' = c := fun i hi => by rw [← hcc i hi, hm i hi]
    let news : List Value := (List.range (m.length * c)).map fun t => u (t / c) (t % c)
    have hg : ∀ i k, i < m.length → k < c → news.getD (i * c + k) undef = u i k := fun i k hi hk => gridGet hi hk
    have hrr : ∀ i k, i < m.length → k < c → RepR w G.ok (u i k) ((m.getD i []).getD k .unk) := fun i k hi hk => hr i k hi (by rw [hce i hi]; exact hk) (hpp i k hi hk)
    have hnl : news.length = m.length * c := gridLen u m.length c
    refine ⟨news, ⟨hm, hnl, fun v hv => ?_, .inl ⟨rfl, fun i k hi hk => by rw [hg i k hi hk]; exact ⟨hrr i k hi hk, hpp i k hi hk⟩⟩, .inr ⟨⟨b, off, none⟩, cap, hv, fun j v hj => ?_⟩⟩⟩
    · obtain ⟨i, k, hi, hk, hv'⟩ := mem_grid hnl hv
      rw [← hv', hg i k hi hk]
      exact (hrr i k hi hk).oneCell (hpp i k hi hk)
    · have hlt : j < m.length * c := by rw [← hnl]; exact (List.getElem?_eq_some_iff.1 hj).1
      have hc : 0 < c := by
        rcases Nat.eq_zero_or_pos c with h0 | h0
        · subst h0; simp at hlt
        · exact h0
      have hi : j / c < m.length := (Nat.div_lt_iff_lt_mul hc).2 hlt
      have hk : j % c < c := Nat.mod_lt _ hc
      have e5 : j / c * c + j % c = j := by rw [Nat.mul_comm]; exact Nat.div_add_mod j c
      have h1 := hcell (j / c) (j % c) hi (by rw [hce _ hi]; exact hk)
      have h2 : news.getD j undef = v := by rw [List.getD_eq_getElem?_getD, hj]; rfl
      have h3 := hg (j / c) (j % c) hi hk
      rw [e5, h2] at h3
      rw [hce _ hi] at h1
      rw [Addr.add_lit, h3, ← h1]
      congr 2
      omega
theorem grab_rep (h : Rel w0 L ok0 e a w G) {K2 : Nat} (hK2 : e.objs.length ≤ K2) {c : Nat} {vx : Value} {A : AV} {m : List (List AV)} {e2 : Env} (hA : RepT w G e vx A) (hg : e.grab A = some (m, e2)) (hm : ∀ i, i < m.length → (m.getD i []).length = c) :
    ∃ news M G2, Rel w0 L ok0 e2 a w G2 ∧ Grabbed w G2 K2 c vx m news M ∧ Keeps w w G G2 e e2 ∧ ∀ K3 k3 v3 B3, e.objs.length ≤ K3 → K3 ≠ K2 → RepC w G K3 [] k3 v3 B3 → RepC w G2 K3 [] k3 v3 B3 := by
  have same : e.elems A = some m → allPure m = true → e2 = e → ∃ news M G2, Rel w0 L ok0 e2 a w G2 ∧ Grabbed w G2 K2 c vx m news M ∧ Keeps w w G G2 e e2 ∧ ∀ K3 k3 v3 B3, e.objs.length ≤ K3 → K3 ≠ K2 → RepC w G K3 [] k3 v3 B3 → RepC w G2 K3 [] k3 v3 B3 := fun h1 h2 h3 => by
    subst h3
    obtain ⟨news, hn⟩ := grab_pure h K2 hA h1 h2 hm
    exact ⟨news, 0, G, h, hn, .refl, fun _ _ _ _ _ _ hh => hh⟩
  have slPure : ∀ {v : Value} {m : List (List AV)}, RepR w G.ok v (.sl m) → allPure m = true := fun {v m} hr => by
    cases hr with
    | sl0 => rfl
    | sl b o cap c' _ u hcap hc hcell hpure hrep =>
      refine List.all_eq_true.2 fun x hx => List.all_eq_true.2 fun y hy => ?_
      obtain ⟨i, hi⟩ := List.mem_iff_getElem?.1 hx
      obtain ⟨k, hk⟩ := List.mem_iff_getElem?.1 hy
      have h1 : i < m.length := (List.getElem?_eq_some_iff.1 hi).1
      have h2 : m.getD i [] = x := by rw [List.getD_eq_getElem?_getD, hi]; rfl
      have h3 : k < c' := by rw [← hc i h1, h2]; exact (List.getElem?_eq_some_iff.1 hk).1
      have := hpure i k h1 h3
      rw [h2, List.getD_eq_getElem?_getD, hk] at this
      exact this
  cases A <;> simp only [Env.grab] at hg <;> try (cases hg; done)
  case nil => cases hg; exact same rfl rfl rfl
  case sl m' => cases hg; exact same rfl (slPure hA) rfl
  case ref d g n q j =>
    cases hc : e.cellR d g n q j with
    | none => simp [hc] at hg
    | some C =>
      cases C <;> simp only [hc] at hg <;> try (cases hg; done)
      · cases hg; exact same (by simp only [Env.elems, hc]) (slPure (hA.2.2.1 _ hc)) rfl
      · rename_i E' c' m'
        by_cases hp : allPure m' = true
        · rw [if_pos hp] at hg; cases hg
          exact same (by simp only [Env.elems, hc]) hp rfl
        · rw [if_neg hp] at hg
          by_cases hw : allWhole m' = true
          case neg => rw [if_neg hw] at hg; cases hg
          rw [if_pos hw] at hg
          cases ht : e.take1 (.ref d g n q j) with
          | none => simp [ht] at hg
          | some r =>
            obtain ⟨B, e1⟩ := r
            simp only [ht] at hg
            cases hg
            obtain ⟨G2, t2, t3, t4, t5, t6⟩ := take_rep (K := K2) (kk := 0) h hK2 (show RepT0 w G e vx (.ref d g n q j) from hA) ht
            have hB : B = .row E' c' m := by
              simp only [Env.take1, hc] at ht
              cases htt : e.turn d q none (fun m => m.set j .unk) with
              | none => simp [htt] at ht
              | some e1' => simp [htt] at ht; exact ht.1.symm
            subst hB
            obtain ⟨xs, y1, y2, y3, y4⟩ := row_own t3
            have hne : m ≠ [] := fun hh => hp (by rw [hh]; rfl)
            have hpos : 0 < m.length := List.length_pos_iff.2 hne
            have hce : c' = c := by rw [← y3 0 hpos, hm 0 hpos]
            subst hce
            refine ⟨xs, m.length * c', G2, t2, ⟨y3, y1.1, fun u hu => ?_, .inr ⟨rfl, y2⟩, ?_⟩, t4, fun K3 k3 v3 B3 h3 hne3 hh => t5 K3 k3 v3 B3 h3 (fun hh2 => hne3 hh2.1) hh⟩
            · obtain ⟨i, k, hi, hk, hu'⟩ := mem_grid y1.1 hu
              have hrc := y2 i k hi hk
              rw [hu'] at hrc
              have h1 : m[i]? = some (m.getD i []) := by rw [List.getD_eq_getElem?_getD, List.getElem?_eq_getElem hi]; rfl
              have h2 := List.all_eq_true.1 hw _ (List.mem_of_getElem? h1)
              have hk' : k < (m.getD i []).length := by rw [y3 i hi]; exact hk
              have h3 : (m.getD i [])[k]? = some ((m.getD i []).getD k .unk) := by rw [List.getD_eq_getElem?_getD (l := m.getD i []), List.getElem?_eq_getElem hk']; rfl
              have h4 := List.all_eq_true.1 h2 _ (List.mem_of_getElem? h3)
              generalize (m.getD i []).getD k .unk = B at hrc h4
              cases hrc with
              | unk => cases h4
              | pure hp hr => exact hr.oneCell hp
              | row0 => rfl
              | row => rfl
            · rcases y1.2 with ⟨hn, hz⟩ | ⟨g', cap, cur, hv', _⟩
              · omega
              · exact .inr ⟨⟨g', 0, none⟩, cap, hv', fun j u hj => y1.cells (g := g') (by rw [hv']; rfl) j u hj⟩
/-- What 'append' does. -/
theorem appendA_rep (h : Rel w0 L ok0 e a w G) {t ty el : TypeId} {z : List AV × Nat × Nat} (ht : P.underlying t = some (.slice el)) (hz : zeroOf P el = some z) (hc : 0 < z.2.1) (hby : 0 < z.2.2) {dst : Option Nat} {vs vx : Value} {s x : AV}
    (hs : RepT w G e vs s) (hx : RepT w G e vx x) (he : appendA e dst el z.2.1 z.2.2 s x = some e') :
    ∃ v' w' e2 G2 B, (Builtin.append_ #[t, t] ty #[vs, vx]).run P w = .ok v' w' ∧ Rel w0 L ok0 e2 a w' G2 ∧ RepT0 w' G2 e2 v' B ∧ e' = e2.put dst B := by
  obtain ⟨i, zv, z1, z2, z3, z4, z5, z6, z7⟩ := zeroOf_spec hz
  have hzc : z.2.1 = i.size := z5.symm
  have hci : 0 < i.size := by omega
  -- the row of one's own is told behind a key that nobody has
  have key : ∀ {e1 : Env} {G1 : Gh} {l : List (List AV)} {xs : List Value}, Rel w0 L ok0 e1 a w G1 → e1.objs.length = e.objs.length → Keeps w w G G1 e e1 → w.ownsRow 0 el i.size vs l.length xs →
      (l = [] ∨ RepC w G1 e.objs.length [] 0 vs (.row el i.size l)) →
      (match e1.grab x with
        | some (m, e2) => if (l.length + m.length) * z.2.2 ≤ 140737488355328 ∧ m.all (fun y => y.length == z.2.1) = true then e2.newRow dst el z.2.1 (l ++ m) else none
        | none => none) = some e' →
      (∀ b, vs.ownBlock = some b → l = [] → RepC w G1 e.objs.length [] 0 vs (.row el i.size l)) →
      ∃ v' w' e2 G2 B, (Builtin.append_ #[t, t] ty #[vs, vx]).run P w = .ok v' w' ∧ Rel w0 L ok0 e2 a w' G2 ∧ RepT0 w' G2 e2 v' B ∧ e' = e2.put dst B := by
    intro e1 G1 l xs h1 hlen hk hown hrow hgo hblk
    cases hg : e1.grab x with
    | none => simp [hg] at hgo
    | some r =>
      obtain ⟨m, e2⟩ := r
      simp only [hg] at hgo
      by_cases hb : (l.length + m.length) * z.2.2 ≤ 140737488355328 ∧ m.all (fun y => y.length == z.2.1) = true
      case neg => rw [if_neg hb] at hgo; cases hgo
      rw [if_pos hb] at hgo
      obtain ⟨hb1, hb2⟩ := hb
      have hm : ∀ k, k < m.length → (m.getD k []).length = i.size := fun k hk => by
        have h2 : m[k]? = some (m.getD k []) := by rw [List.getD_eq_getElem?_getD, List.getElem?_eq_getElem hk]; rfl
        have h3 := List.all_eq_true.1 hb2 _ (List.mem_of_getElem? h2)
        have h4 : (m.getD k []).length = z.2.1 := by simpa using h3
        omega
      obtain ⟨news, M, G2, g1, g2, g3, g4⟩ := grab_rep h1 (K2 := e.objs.length + 1) (by omega) (RepT.of0 hk.t hx) hg hm
      have hl2 : e2.objs.length = e.objs.length := by rw [g3.len, hlen]
      obtain ⟨d, hd1, hd, rfl⟩ := newRow_some hgo
      have hrow2 : RepC w G1 e.objs.length [] 0 vs (.row el i.size l) → RepC w G2 e.objs.length [] 0 vs (.row el i.size l) := fun hh => g4 _ _ _ _ (by omega) (by omega) hh
      have hlab : ∀ b, vs.ownBlock = some b → G2.own b = some (e.objs.length, [], some 0) := fun b hb => by
        have hr : RepC w G1 e.objs.length [] 0 vs (.row el i.size l) := by
          rcases hrow with h5 | h5
          · exact hblk b hb h5
          · exact h5
        obtain ⟨xs', _, _, _, y4⟩ := row_own (hrow2 hr)
        exact y4 b hb
      obtain ⟨xs1, hown1, hold⟩ : ∃ xs1 : List Value, w.ownsRow 0 el i.size vs l.length xs1 ∧ ∀ i' k, i' < l.length → k < i.size → RepC w G2 e.objs.length [(0, i.size, i')] k (xs1.getD (i' * i.size + k) undef) ((l.getD i' []).getD k .unk) := by
        rcases hrow with h5 | h5
        · subst h5; exact ⟨xs, hown, fun i' k hi' => absurd hi' (by simp)⟩
        · obtain ⟨xs', y1, y2, _, _⟩ := row_own (hrow2 h5)
          exact ⟨xs', y1, y2⟩
      have hll : ∀ i', i' < l.length → (l.getD i' []).length = i.size := fun i' hi' => by
        rcases hrow with h5 | h5
        · subst h5; exact absurd hi' (by simp)
        · obtain ⟨xs', _, _, y3, _⟩ := row_own h5
          exact y3 i' hi'
      have fin : ∀ {v' : Value} {w' : World}, (Builtin.append_ #[t, t] ty #[vs, vx]).run P w = .ok v' w' → w'.ownsRow 0 el i.size v' (l.length + m.length) (xs1 ++ news) → w.grownBy w' vs.ownBlock →
          (∀ b, vs.ownBlock = some b → ∀ o, o < l.length * i.size → w'.cell? ⟨b, o, none⟩ = w.cell? ⟨b, o, none⟩) → (v'.ownBlock = vs.ownBlock ∨ v'.ownBlock = some w.heap.size) →
          ∃ v' w' e2' G2 B, (Builtin.append_ #[t, t] ty #[vs, vx]).run P w = .ok v' w' ∧ Rel w0 L ok0 e2' a w' G2 ∧ RepT0 w' G2 e2' v' B ∧ (e2.setObj d ⟨e2.gen d + 1, List.replicate 1 [], .val [.row el z.2.1 (l ++ m)]⟩).put dst (.ref d (e2.gen d + 1) 0 [] 0) = e2'.put dst B := by
        intro v' w' hr ho hgr hke hbk
        obtain ⟨G3, r1, r2, r3⟩ := append_rep (K := e.objs.length) (K2 := e.objs.length + 1) g1 hd (by omega) (by omega) (by omega) hci hown1 hold hll hlab g2.len g2.reps ho hgr hke hbk (run_drawn _ _ hr)
        rw [hzc]
        exact ⟨v', w', _, G3, _, hr, r1, r3, rfl⟩
      rcases g2.val with ⟨hm0, ad, cap, hv⟩ | ⟨ad, cap, hv, hcells⟩
      · subst hm0
        have hn0 : news = [] := List.eq_nil_of_length_eq_zero (by have := g2.size; simpa using this)
        subst hn0
        refine fin (v' := vs) (w' := w) (by rw [hv]; exact append_zero ht z1 hown1 ad cap) (by simpa using hown1) (World.grownBy.refl w _) (fun _ _ _ _ => rfl) (.inl rfl)
      · by_cases hm0 : m.length = 0
        · have hn0 : news = [] := List.eq_nil_of_length_eq_zero (by have := g2.size; rw [this, hm0]; simp)
          subst hn0
          refine fin (v' := vs) (w' := w) (by rw [hv, hm0]; exact append_zero ht z1 hown1 (some ad) cap) (by rw [hm0]; simpa using hown1) (World.grownBy.refl w _) (fun _ _ _ _ => rfl) (.inl rfl)
        · have hbytes : (l.length + m.length) * i.bytes ≤ 140737488355328 := by rw [z6]; exact hb1
          have h63 : l.length + m.length ≤ maxLen := by
            have h7 : (l.length + m.length) * 1 ≤ (l.length + m.length) * i.bytes := Nat.mul_le_mul_left _ (by omega)
            simp only [maxLen]; omega
          obtain ⟨v', w', r1, r2, r3, r4, r5⟩ := append_law (P := P) (w := w) (ty := ty) ht z1 z2 z7 hci hown1 (ad := ad) (m := m.length) (c := cap) (news := news) g2.size hcells g2.one (by omega) h63 hbytes (Nat.zero_le _)
          exact fin (by rw [hv]; exact r1) r2 r3 r4 r5
  cases s <;> simp only [appendA] at he <;> try (cases he; done)
  case nil =>
    have hvs := inv_nil hs
    subst hvs
    exact key (xs := []) h rfl .refl ⟨by simp, .inl ⟨rfl, rfl⟩⟩ (.inl rfl) he (fun b hb => by simp [Value.ownBlock] at hb)
  case ref d g n q j =>
    cases ht1 : e.take1 (.ref d g n q j) with
    | none => simp [ht1] at he
    | some r =>
      obtain ⟨B, e1⟩ := r
      cases B <;> simp only [ht1] at he <;> try (cases he; done)
      rename_i E' c' l
      by_cases hb : E' = el ∧ c' = z.2.1
      case neg => rw [if_neg hb] at he; cases he
      rw [if_pos hb] at he
      obtain ⟨rfl, rfl⟩ := hb
      obtain ⟨G1, t2, t3, t4, t5, t6⟩ := take_rep (K := e.objs.length) (kk := 0) h (Nat.le_refl _) (show RepT0 w G e vs (.ref d g n q j) from hs) ht1
      rw [hzc] at t3
      obtain ⟨xs, y1, _, _, _⟩ := row_own t3
      exact key t2 t4.len t4 y1 (.inr t3) he (fun b hb _ => t3)
end
end Go.Nv
/- BY VALUE, with trees. Part 23: literals of slices; what appends, at the machine. -/
namespace Go.Nv
variable [Dr]
open Go.RowKit
section
variable {P : Program} {w0 w' : World} {L : Lend} {ok0 : Nat → Nat → Prop} {e : Env} {a : Act} {w : World} {G : Gh} {o : Oper} {A : AV}
variable {R : Nat → List AV → Option AV} {K : Act → World → Prop} {Q : Exit → Act → World → Prop} {e' : Env}
omit [Dr] in
theorem chunks_len (c : Nat) : ∀ (n : Nat) (l : List AV), (chunks c n l).length = n
  | 0, l => rfl
  | n + 1, l => by simp [chunks, chunks_len c n]
omit [Dr] in
theorem chunks_get (c : Nat) : ∀ (n : Nat) (l : List AV) (i : Nat), i < n → (chunks c n l).getD i [] = (l.drop (i * c)).take c
  | 0, l, i, hi => absurd hi (by simp)
  | n + 1, l, 0, hi => by simp [chunks]
  | n + 1, l, i + 1, hi => by
    have := chunks_get c n (l.drop c) i (by omega)
    simp only [chunks, List.getD_cons_succ, this, List.drop_drop]
    congr 2
    rw [Nat.add_mul]; omega
omit [Dr] in
theorem chunks_get2 {c n : Nat} {l : List AV} (hl : l.length = n * c) {i : Nat} (hi : i < n) : ((chunks c n l).getD i []).length = c ∧ ∀ k, k < c → ((chunks c n l).getD i []).getD k .unk = l.getD (i * c + k) .unk := by
  rw [chunks_get c n l i hi]
  have h1 : (i + 1) * c ≤ n * c := Nat.mul_le_mul_right c hi
  rw [Nat.add_mul] at h1
  refine ⟨take_drop_len l (i * c) c (by omega), fun k hk => drop_take_getD l (i * c) c k hk (by omega)⟩
omit [Dr] in
theorem apart_cells (n : Nat) : Apart (fun t => ([], t)) n := fun i i' _ _ hne q2 j2 h1 h2 => by
  have := h1.apart h2; simp only at this; omega
/-- A new row, whose cells were taken behind a key that nobody has. -/
theorem lit_rep (h : Rel w0 L ok0 e a w G) {d K : Nat} (hd : d < e.objs.length) (hK : e.objs.length ≤ K) {E c : Nat} (hc : 0 < c) {m : List (List AV)} {cells : Array Value} {ps : List AV}
    (hps : RepP w G K [] 0 (fun t => cells.getD t undef) ps) (hlen : ps.length = m.length * c) (hm : ∀ i, i < m.length → (m.getD i []).length = c) (hget : ∀ i k, i < m.length → k < c → (m.getD i []).getD k .unk = ps.getD (i * c + k) .unk)
    (hcs : cells.size = m.length * c) (hmx : m.length ≤ maxLen) :
    ∃ G2, Rel w0 L ok0 (e.setObj d ⟨e.gen d + 1, List.replicate 1 [], .val [.row E c m]⟩) a (w.alloc (.cells cells E)) G2 ∧ Keeps w (w.alloc (.cells cells E)) G G2 e (e.setObj d ⟨e.gen d + 1, List.replicate 1 [], .val [.row E c m]⟩) ∧
      RepT0 (w.alloc (.cells cells E)) G2 (e.setObj d ⟨e.gen d + 1, List.replicate 1 [], .val [.row E c m]⟩) (.slice (some ⟨w.heap.size, 0, none⟩) m.length m.length) (.ref d (e.gen d + 1) 0 [] 0) := by
  have hdK : d ≠ K := by omega
  let src : Nat → Path × Nat := fun t => ([], t)
  let tgt : Nat → Path × Nat := fun t => ([(0, c, 0 + t / c)], t % c)
  let Gm := G.relocF K d src tgt (m.length * c)
  have hGmok : Gm.ok = G.ok := Gh.relocF_ok _
  have hparts := (relocF_parts (w := w) (G := G) (src := src) (tgt := tgt) (K := K) hdK (vals := fun t => cells.getD t undef) (A := fun t => ps.getD t .unk) (apart_cells (m.length * c)) (apart_row c 0 (m.length * c) hc) (fun t ht => by have := hps t (by omega); simpa using this) (m.length * c) (Nat.le_refl _)).1
  have hold : ∀ b, b < w.heap.size → (w.alloc (.cells cells E)).heap[b]? = w.heap[b]? := fun b hb => heap_alloc_old w _ b hb
  have hsm : ∀ b o, G.ok b o → SameAt w (w.alloc (.cells cells E)) b o := fun b1 o1 hb1 => SameAt.of_block (hold b1 (h.okb b1 o1 hb1))
  refine newRow_rep (w' := w.alloc (.cells cells E)) (G1 := Gm) (b := w.heap.size) (cap := m.length) (E := E) (c := c) (cur := cells) (l := m) h hd
    ⟨⟨h.fr.os, h.fr.tape, h.fr.output, by have := h.fr.size; simp; omega, fun k hk hL => by rw [hold k (by have := h.fr.size; omega)]; exact h.fr.block k hk hL, h.fr.drawn⟩, by simp, hsm, hGmok, Gh.relocF_bl _, Gh.relocF_vs _,
      fun d1 q1 x b1 hd1 hdd hb1 => ?_, fun d1 q1 j1 hd1 hdd => Gh.relocF_h _ (fun hh => hdd hh.1), fun b1 p hp => Gh.relocF_inv _ hp⟩
    (heap_alloc_new w _) (.inl h.fr.size) (fun o hh => by have := h.okb _ _ hh; omega) (Nat.le_refl _) hmx hcs hm (fun i k hi hk => ?_)
    (fun q1 j1 hb1 => by obtain ⟨p', hp'⟩ := Gh.relocF_inv _ hb1; have := (h.own _ _ hp').1; omega)
  · have hlt : b1 < w.heap.size := (h.own b1 _ hb1).1
    refine ⟨?_, by omega, hold b1 hlt⟩
    cases x with
    | none => exact Gh.relocF_box hb1 _
    | some j1 => exact Gh.relocF_other hb1 _ (fun hh => by omega)
  · have hidx : i * c + k < m.length * c ∧ (i * c + k) / c = i ∧ (i * c + k) % c = k := by
      refine ⟨?_, ?_, ?_⟩
      · have h1 : (i + 1) * c ≤ m.length * c := Nat.mul_le_mul_right c hi
        rw [Nat.add_mul] at h1; omega
      · rw [Nat.add_comm, Nat.add_mul_div_right _ _ hc, Nat.div_eq_of_lt hk, Nat.zero_add]
      · rw [Nat.add_comm, Nat.add_mul_mod_self_right]; exact Nat.mod_eq_of_lt hk
    have hq := hparts (i * c + k) hidx.1
    have e1 : tgt (i * c + k) = ([(0, c, i)], k) := by simp only [tgt, hidx.2.1, hidx.2.2, Nat.zero_add]
    rw [e1] at hq
    rw [hget i k hi hk]
    refine hq.mono (fun _ _ hh => hh) (fun b1 o1 hb1 => hsm b1 o1 (by have hb2 := hb1; rw [Gh.relocF_ok] at hb2; exact hb2)) (fun q2 j2 _ => ⟨rfl, fun b1 hb1 => ⟨hb1, ?_⟩⟩)
    obtain ⟨p', hp'⟩ := Gh.relocF_inv _ hb1
    exact hold b1 (h.own b1 _ hp').1
theorem lits_fill (h : Rel w0 L ok0 e a w G) (c : Nat) :
    ∀ (ps : List (Nat × Operand)) (i0 : Nat) (xs : List X) (l : List AV) (cs : Array Value),
      ps.map (·.1) = List.range' i0 ps.length → compXs (ps.map (·.2)) = some xs → litParts e c xs = some l → (i0 + ps.length) * c ≤ cs.size →
      ∃ cells, Instr.fill (fun i => some (i * c, c)) cs (ps.map fun p => (p.1, a.eval p.2)) = some cells ∧ cells.size = cs.size ∧ (∀ k, k < i0 * c → cells.getD k undef = cs.getD k undef) ∧
        xs.length = ps.length ∧ l.length = ps.length * c ∧ ∀ t, t < l.length → RepT0 w G e (cells.getD (i0 * c + t) undef) (l.getD t .unk) := by
  intro ps
  induction ps with
  | nil =>
    intro i0 xs l cs hi hx hl hs
    simp [compXs] at hx
    subst hx
    simp [litParts] at hl
    subst hl
    exact ⟨cs, rfl, rfl, fun _ _ => rfl, rfl, by simp, fun t ht => absurd ht (by simp)⟩
  | cons p ps ih =>
    intro i0 xs l cs hi hx hl hs
    obtain ⟨i, px⟩ := p
    simp only [List.map_cons, List.length_cons, List.range'_succ, List.cons.injEq] at hi
    obtain ⟨rfl, hi⟩ := hi
    simp only [List.map_cons, compXs] at hx
    cases h1 : compX px with
    | none => simp [h1] at hx
    | some y =>
      cases h2 : compXs (ps.map (·.2)) with
      | none => simp [h1, h2] at hx
      | some ys =>
        simp only [h1, h2, Option.some.injEq] at hx
        subst hx
        simp only [litParts] at hl
        cases hc : partsT (e.get y) with
        | none => simp [hc] at hl
        | some m =>
          simp only [hc] at hl
          by_cases hm : m.length = c
          case neg => rw [if_neg hm] at hl; cases hl
          rw [if_pos hm] at hl
          cases h3 : litParts e c ys with
          | none => simp [h3] at hl
          | some l2 =>
            simp only [h3, Option.some.injEq] at hl
            subst hl
            obtain ⟨c1, c2⟩ := partsT_rep (compX_rep h1 h) hc
            simp only [List.length_cons] at hs
            have hfit : i * c + (a.eval px).cells.size ≤ cs.size := by
              rw [c1, hm]
              have h5 : (i + 1) * c ≤ (i + (ps.length + 1)) * c := Nat.mul_le_mul_right c (by omega)
              rw [Nat.add_mul, Nat.one_mul] at h5
              omega
            obtain ⟨f1, f2⟩ := zipFold (i * c) (a.eval px).cells cs hfit
            obtain ⟨cells, g1, g2, g3, g4, g5, g6⟩ := ih (i + 1) ys l2 _ (by simpa using hi) h2 h3 (by rw [f1, show i + 1 + ps.length = i + (ps.length + 1) from by omega]; exact hs)
            refine ⟨cells, ?_, by rw [g2, f1], fun k hk => ?_, by simp [g4], by rw [List.length_append, g5, hm, List.length_cons, Nat.add_mul]; omega, fun t ht => ?_⟩
            · simp only [List.map_cons, Instr.fill]
              rw [if_neg (by rw [c1, hm]; rw [c1, hm] at hfit; simp; omega)]
              exact g1
            · rw [g3 k (by rw [Nat.add_mul]; omega), f2 k, if_pos hk]
            · by_cases htc : t < c
              · have hk : i * c + t < (i + 1) * c := by rw [Nat.add_mul]; omega
                rw [g3 _ hk, f2, if_neg (by omega), if_pos (by rw [c1, hm]; omega)]
                have e6 : i * c + t - i * c = t := by omega
                rw [e6]
                have e7 : (m ++ l2).getD t .unk = m.getD t .unk := by simp [List.getD_eq_getElem?_getD, List.getElem?_append_left (by omega : t < m.length)]
                rw [e7]
                exact c2 t (by omega)
              · have e7 : (m ++ l2).getD t .unk = l2.getD (t - c) .unk := by simp [List.getD_eq_getElem?_getD, List.getElem?_append_right (by omega : m.length ≤ t), hm]
                rw [e7]
                have := g6 (t - c) (by simp at ht; omega)
                have e8 : (i + 1) * c + (t - c) = i * c + t := by rw [Nat.add_mul]; omega
                rw [e8] at this
                exact this
theorem sim_lit (h : Rel w0 L ok0 e a w G) {t el : TypeId} {len : Nat} {parts : Array (Nat × Operand)} {z : List AV × Nat × Nat} {xs : List X} (ho : o.op = .buildSlice t len parts)
    (ht : P.underlying t = some (.slice el)) (hz : zeroOf P el = some z) (hx : compXs (parts.toList.map (·.2)) = some xs) (hi : parts.toList.map (·.1) = List.range len) (hpos : 0 < z.2.1) (hbig : len * z.2.1 ≤ 16777216)
    (he : evalO R e o.dst (.lit el z.2.1 xs) = some e') (hK : ∀ a' w' G', Rel w0 L ok0 e' a' w' G' → K a' w') : o.wp P a w K Q := by
  simp only [evalO] at he
  cases hl : litParts e z.2.1 xs with
  | none => simp [hl] at he
  | some l =>
    simp only [hl] at he
    cases htk : e.takes l with
    | none => simp [htk] at he
    | some r =>
      obtain ⟨ps, e1⟩ := r
      simp only [htk] at he
      obtain ⟨d, hdst, hd, rfl⟩ := newRow_some he
      obtain ⟨i, zv, z1, z2, z3, z4, z5, z6, z7⟩ := zeroOf_spec hz
      have hlen : parts.toList.length = len := by have := congrArg List.length hi; simpa using this
      let cs : Array Value := (Array.range (len * z.2.1)).map (fun k => (if len * z.2.1 = 0 then (#[] : Array Value) else zv.cells)[k % (if len * z.2.1 = 0 then (#[] : Array Value) else zv.cells).size]!)
      have hcs : cs.size = len * z.2.1 := by simp [cs]
      obtain ⟨cells, g1, g2, g3, g4, g5, g6⟩ := lits_fill h z.2.1 parts.toList 0 xs l cs (by rw [hi, List.range_eq_range', hlen]) hx hl (by rw [hcs, hlen]; simp)
      have hsz : sizeOf? P el = some z.2.1 := by simp [sizeOf?, z1, z5]
      have hrun : (execOp a.eval o).run P w = .ok (.value (.slice (some ⟨w.heap.size, 0, none⟩) len len)) (w.alloc (.cells cells el)) := by
        have hnb : ¬ (16777216 < len * z.2.1) := by omega
        have hparts : (parts.map fun (x : Nat × Operand) => match x with | (i, x) => (i, a.eval x)).toList = parts.toList.map fun p => (p.1, a.eval p.2) := by simp
        by_cases h0 : len * z.2.1 = 0
        · have g1' : Instr.fill (fun i => some (i * z.2.1, z.2.1)) ((Array.range (len * z.2.1)).map (fun k => (#[] : Array Value)[k % (#[] : Array Value).size]!)) (parts.toList.map fun p => (p.1, a.eval p.2)) = some cells := by
            simpa only [cs, h0, if_true] using g1
          simp only [execOp, ho, Sem.run_bind, Instr.buildSlice, run_underlying ht, Result.andThen_ok, run_sizeOf hsz, hparts]
          rw [if_neg (by simpa using hnb)]
          simp only [Sem.run_bind, Sem.run_pure, Result.andThen_ok]
          rw [if_pos h0]
          simp only [Sem.run_bind, Sem.run_pure, Result.andThen_ok]
          rw [g1']
          simp [newRow]
        · have g1' : Instr.fill (fun i => some (i * z.2.1, z.2.1)) ((Array.range (len * z.2.1)).map (fun k => zv.cells[k % zv.cells.size]!)) (parts.toList.map fun p => (p.1, a.eval p.2)) = some cells := by
            simpa only [cs, h0, if_false] using g1
          have hzr : (zeroValue el).run P w = .ok zv w := by simp [zeroValue, typeInfo, z1, z2]
          simp only [execOp, ho, Sem.run_bind, Instr.buildSlice, run_underlying ht, Result.andThen_ok, run_sizeOf hsz, hparts]
          rw [if_neg (by simpa using hnb)]
          simp only [Sem.run_bind, Sem.run_pure, Result.andThen_ok]
          rw [if_neg h0]
          simp only [Sem.run_bind, Sem.run_pure, Result.andThen_ok, hzr]
          rw [g1']
          simp [newRow]
      obtain ⟨t1, G1, t2, t3, t4, t5, t6⟩ := takes_rep (K := e.objs.length) (k0 := 0) (vals := fun i => cells.getD i undef) h (Nat.le_refl _) (fun t ht => by have := g6 t ht; simpa using this) htk
      have hxl : (chunks z.2.1 xs.length ps).length = len := by rw [chunks_len, g4, hlen]
      have hpl : ps.length = xs.length * z.2.1 := by rw [t1, g5, g4]
      obtain ⟨G2, r1, r2, r3⟩ := lit_rep (E := el) t2 hd (K := e.objs.length) (by rw [t4.len]; exact Nat.le_refl _) hpos (m := chunks z.2.1 xs.length ps) t3 (by rw [chunks_len]; exact hpl) (fun i hi => by rw [chunks_len] at hi; exact (chunks_get2 hpl hi).1)
        (fun i k hi hk => by rw [chunks_len] at hi; exact (chunks_get2 hpl hi).2 k hk) (by rw [g2, hcs, hxl]) (by
          rw [hxl]
          have : len * 1 ≤ len * z.2.1 := Nat.mul_le_mul_left _ hpos
          simp only [maxLen]; omega)
      rw [hxl] at r3
      exact wp_value hrun (hK _ _ _ (r1.put o.dst r3.toT))
omit [Dr] in
theorem run_app {s x : Operand} {t : TypeId} {c : Call} (ho : o.op = .call c) (hc : c.callee = .builtin .append) (hargs : c.args = #[s, x]) (hts : c.argTypes = #[t, t]) {v' : Value} {w' : World}
    (hr : (Builtin.append_ #[t, t] o.type #[a.eval s, a.eval x]).run P w = .ok v' w') : (execOp a.eval o).run P w = .ok (.value v') w' := by
  simp [execOp, ho, resolve, hc, hargs, hts, invoke, builtin, hr]
theorem sim_app (h : Rel w0 L ok0 e a w G) {s x : Operand} {s' x' : X} {t el : TypeId} {z : List AV × Nat × Nat} {c : Call} (ho : o.op = .call c) (hc : c.callee = .builtin .append) (hargs : c.args = #[s, x]) (hts : c.argTypes = #[t, t])
    (hs : compX s = some s') (hx : compX x = some x') (ht : P.underlying t = some (.slice el)) (hz : zeroOf P el = some z) (h0 : 0 < z.2.1) (hb0 : 0 < z.2.2)
    (he : appendA e o.dst el z.2.1 z.2.2 (e.get s') (e.get x') = some e') (hK : ∀ a' w' G', Rel w0 L ok0 e' a' w' G' → K a' w') : o.wp P a w K Q := by
  obtain ⟨v', w', e2, G2, B, r1, r2, r3, rfl⟩ := appendA_rep (ty := o.type) h ht hz h0 hb0 (compX_rep hs h) (compX_rep hx h) he
  exact wp_value (run_app ho hc hargs hts r1) (hK _ _ _ (r2.put o.dst r3.toT))
omit [Dr] in
theorem cpy_app {dst : Option Nat} {E c by_ : Nat} {x : X} (he : evalO R e dst (.cpy E c by_ x) = some e') : appendA e dst E c by_ .nil (e.get x) = some e' := by
  simp only [evalO] at he
  cases hm : e.elems (e.get x) with
  | none => simp [hm] at he
  | some m =>
    simp only [hm] at he
    by_cases hb : m.length * by_ ≤ 140737488355328 ∧ m.all (fun y => y.length == c) = true ∧ allPure m = true
    case neg => rw [if_neg hb] at he; cases he
    rw [if_pos hb] at he
    have hg : e.grab (e.get x) = some (m, e) := by
      cases hx : e.get x <;> simp only [hx, Env.elems] at hm <;> try (cases hm; done)
      case nil => cases hm; rfl
      case sl => cases hm; rfl
      case ref d g n q j =>
        cases hc : e.cellR d g n q j with
        | none => simp [hc] at hm
        | some C =>
          cases C <;> simp only [hc] at hm <;> try (cases hm; done)
          · cases hm; simp only [Env.grab, hc]
          · cases hm; simp only [Env.grab, hc, hb.2.2, if_true]
    simp only [appendA, hg, List.length_nil, Nat.zero_add, hb.1, hb.2.1, and_self, if_true, List.nil_append]
    exact he
end
end Go.Nv
/- BY VALUE, with trees. Part 24: strings as bytes, parts of slices, functions made on the way, comparisons with nil, the greater of two. -/
namespace Go.Nv
variable [Dr]
open Go.RowKit
section
variable {P : Program} {w0 w' : World} {L : Lend} {ok0 : Nat → Nat → Prop} {e : Env} {a : Act} {w : World} {G : Gh} {o : Oper} {A : AV}
variable {R : Nat → List AV → Option AV} {K : Act → World → Prop} {Q : Exit → Act → World → Prop} {e' : Env}
def Gh.more (G : Gh) (p : Nat → Nat → Prop) : Gh := { G with ok := fun b o => G.ok b o ∨ p b o }
/-- Nothing that was there has turned; of what is new some is never written. -/
theorem Rel.world (h : Rel w0 L ok0 e a w G) (hos : w'.os = w.os) (htp : w'.tape = w.tape) (hout : w'.output = w.output) (hsz : w.heap.size ≤ w'.heap.size) (hold : ∀ b, b < w.heap.size → w'.heap[b]? = w.heap[b]?)
    (p : Nat → Nat → Prop) (hp : ∀ b o, p b o → w.heap.size ≤ b ∧ b < w'.heap.size) (hdr : w.drawn ≤ w'.drawn) : Rel w0 L ok0 e a w' (G.more p) ∧ Keeps w w' G (G.more p) e e := by
  have hsm : ∀ b o, G.ok b o → SameAt w w' b o := fun b1 o1 hb1 => SameAt.of_block (hold b1 (h.okb b1 o1 hb1))
  have hc : ∀ {d1 q1 j1 v A}, RepC w G d1 q1 j1 v A → RepC w' (G.more p) d1 q1 j1 v A := fun hh => RepC.mono (G' := G.more p) (fun _ _ hh => Or.inl hh) hsm hh (fun q2 j2 _ => ⟨rfl, fun b1 hb1 => ⟨hb1, hold b1 (h.own b1 _ hb1).1⟩⟩)
  have hrr : ∀ {v A}, RepR w G.ok v A → RepR w' (G.more p).ok v A := fun hh => RepR.mono (fun _ _ hh => Or.inl hh) hsm hh
  have ht : ∀ v A, RepT0 w G e v A → RepT0 w' (G.more p) e v A := fun v A hh => by
    cases A
    case ref d1 g1 n1 q1 j1 => exact ⟨hh.1, hh.2.1, fun l hl => hrr (hh.2.2.1 l hl), hh.2.2.2⟩
    case ptr => exact hh
    case mref => exact hh
    all_goals exact hrr hh
  refine ⟨⟨⟨hos.trans h.fr.os, htp.trans h.fr.tape, hout.trans h.fr.output, Nat.le_trans h.fr.size hsz, fun k hk hL => by rw [hold k (by have := h.fr.size; omega)]; exact h.fr.block k hk hL, fun dd => Nat.le_trans (h.fr.drawn dd) hdr⟩, h.size,
    fun t htt => RepT.of0 ht (h.tmps t htt), h.defers, fun b o hb => ?_, fun b o hb => .inl (h.okm b o hb), fun b o hb hL hh => ?_, fun b p1 hp1 => ⟨Nat.lt_of_lt_of_le (h.own b p1 hp1).1 hsz, (h.own b p1 hp1).2.1, fun o hh => ?_⟩, fun d1 hd1 => ?_, h.vlen, fun p hp => ht _ _ (h.pins p hp)⟩, ht, rfl, rfl⟩
  · rcases hb with hb | hb
    · exact Nat.lt_of_lt_of_le (h.okb b o hb) hsz
    · exact (hp b o hb).2
  · rcases hh with hh | hh
    · exact h.ok0 b o hb hL hh
    · have := (hp b o hh).1; have := h.fr.size; omega
  · rcases hh with hh | hh
    · exact (h.own b p1 hp1).2.2 o hh
    · have := (hp b o hh).1; have := (h.own b p1 hp1).1; omega
  · have hO := h.objs d1 hd1
    cases hk : e.kind d1 with
    | dead => trivial
    | box lb =>
      rw [hk] at hO
      obtain ⟨x1, vs, T, x2, x3, x4⟩ := hO
      exact ⟨x1, vs, T, by show w'.heap[G.bl d1]? = _; rw [hold _ (h.own _ _ x1).1]; exact x2, x3, fun i hi => hc (x4 i hi)⟩
    | val lv => rw [hk] at hO; exact fun i hi => hc (hO i hi)
    | map lm =>
      rw [hk] at hO
      obtain ⟨x1, es, cl, x2, x3, x4⟩ := hO
      refine ⟨x1, es, cl, by show w'.heap[G.bl d1]? = _; rw [hold _ (h.own _ _ x1).1]; exact x2, x3, fun i hi => ?_⟩
      obtain ⟨y1, y2, y3, y4⟩ := x4 i hi
      exact ⟨hrr y1, y2, hrr y3, y4⟩
/-! ### Strings and bytes -/
omit [Dr] in
theorem byteCells_len (s : ByteArray) : (byteCells s).length = s.size := by simp [byteCells]
omit [Dr] in
theorem byteCells_getD (s : ByteArray) (i : Nat) (hi : i < s.data.size) : (byteCells s).getD i [] = [AV.int .u8 ((s.data[i]).toNat : Int)] := by
  have h1 : s.data[i]? = some s.data[i] := Array.getElem?_eq_getElem hi
  simp [byteCells, List.getD_eq_getElem?_getD, h1]
theorem sim_cvsb (h : Rel w0 L ok0 e a w G) {s d el : TypeId} {x : Operand} {x' : X} (hx : compX x = some x') (ho : o.op = .convert s d x) (hs : P.underlying s = some .string) (hd : P.underlying d = some (.slice el)) (hel : P.underlying el = some (.int .u8)) {E : Nat}
    (he : evalO R e o.dst (.cvsb E x') = some e') (hK : ∀ a' w' G', Rel w0 L ok0 e' a' w' G' → K a' w') : o.wp P a w K Q := by
  simp only [evalO] at he
  have h1 := compX_rep hx h
  cases hgx : e.get x' <;> simp only [hgx] at he h1 <;> try (cases he; done)
  rename_i t
  by_cases hb : t.size ≤ 140737488355328
  case neg => rw [if_neg hb] at he; cases he
  rw [if_pos hb] at he
  have e1 := inv_str h1
  have hr := run_bytes_of_string (P := P) w s d el t hs hd hel
  generalize hw' : w.drew.alloc (.cells (bytesRow t (grownCap w t.size 0 el)) el ((bytesRow t (grownCap w t.size 0 el)).size, (bytesRow t (grownCap w t.size 0 el)).size + 1)) = w' at hr
  have hcap : t.size ≤ grownCap w t.size 0 el := grownCap_ge w t.size 0 el
  have hsz : w'.heap.size = w.heap.size + 1 := by subst hw'; simp
  obtain ⟨h2, _⟩ := h.world (w' := w') (by subst hw'; rfl) (by subst hw'; rfl) (by subst hw'; rfl) (by omega) (fun b hb => by subst hw'; exact heap_alloc_old w.drew _ b hb) (fun b o => b = w.heap.size) (fun b o hh => by subst hh; omega) (run_drawn _ _ hr)
  cases he
  refine wp_value (v := .slice (some ⟨w.heap.size, 0, none⟩) t.size (grownCap w t.size 0 el)) (w' := w') ?_ (hK _ _ _ (h2.put o.dst (RepR.toT ?_)))
  · simp only [execOp, ho, Sem.run_bind, e1, hr, Result.andThen_ok, Sem.run_pure]
  · rw [← byteCells_len t]
    have hcl : ∀ i, i < (byteCells t).length → (byteCells t).getD i [] = [AV.int .u8 (((t.data.getD i 0)).toNat : Int)] := fun i hi => by
      rw [byteCells_len] at hi
      have hi' : i < t.data.size := hi
      rw [byteCells_getD t i hi']
      rw [Array.getD_eq_getD_getElem?, Array.getElem?_eq_getElem hi']
      rfl
    refine .sl w.heap.size 0 _ 1 (byteCells t) (fun i j => .int .u8 (((t.data.getD i 0)).toNat : Int)) (by rw [byteCells_len]; exact hcap) (fun i hi => by rw [hcl i hi]; rfl) (fun i j hi hj => ⟨.inr rfl, ?_⟩) (fun i j hi hj => ?_) (fun i j hi hj => ?_)
    · have hj0 : j = 0 := by omega
      subst hj0
      rw [byteCells_len] at hi
      have hi' : i < t.data.size := hi
      have hcell : w'.cell? ⟨w.heap.size, i, none⟩ = (bytesRow t (grownCap w t.size 0 el))[i]? := by
        subst hw'
        exact cell_of_row _ w.heap.size i _ el _ (heap_alloc_new w.drew _)
      simp only [Nat.zero_add, Nat.mul_one, Nat.add_zero]
      rw [hcell, bytesRow_at t _ i hi', Array.getD_eq_getD_getElem?, Array.getElem?_eq_getElem hi']
      rfl
    · have hj0 : j = 0 := by omega
      subst hj0
      rw [hcl i hi]; rfl
    · have hj0 : j = 0 := by omega
      subst hj0
      rw [hcl i hi]
      exact .int _ _
/-! ### Parts of slices -/
omit [Dr] in
theorem refsOf_rep {v : Value} {A : AV} (h : RepT w G e v A) : ∀ B ∈ refsOf A, ∃ v, RepT0 w G e v B := by
  intro B hB
  cases A <;> simp only [refsOf, List.not_mem_nil] at hB
  case ref d g n q j =>
    simp only [List.mem_singleton] at hB
    subst hB
    exact ⟨v, h⟩
  case agg l =>
    obtain ⟨vs, _, h2, h3⟩ := h
    have hm := (List.mem_filter.1 hB).1
    obtain ⟨i, hi⟩ := List.mem_iff_getElem?.1 hm
    have hlt : i < l.length := (List.getElem?_eq_some_iff.1 hi).1
    have := h3 i hlt
    rw [List.getD_eq_getElem?_getD, hi] at this
    exact ⟨_, this⟩
omit [Dr] in
theorem RepT.t0 {v : Value} {A : AV} (h : RepT w G e v A) (hA : ∀ l, A ≠ .agg l ∧ A ≠ .tup l) (hf : ∀ f l, A ≠ .fnp f l) : RepT0 w G e v A := by
  cases A
  case agg l => exact absurd rfl (hA l).1
  case tup l => exact absurd rfl (hA l).2
  case fnp f l => exact absurd rfl (hf f l)
  all_goals exact h
theorem sim_sub (h : Rel w0 L ok0 e a w G) {x : Operand} {x' : X} {t el : TypeId} {c : Nat} {lo hi : Option Operand} {lo' hi' : Option X} (hx : compX x = some x') (ho : o.op = .slice t x lo hi none) (ht : P.underlying t = some (.slice el)) (hc : sizeOf? P el = some c)
    (hlo : compXo lo = some lo') (hhi : compXo hi = some hi')
    (he : evalO R e o.dst (.sub c x' lo' hi') = some e') (hK : ∀ a' w' G', Rel w0 L ok0 e' a' w' G' → K a' w') : o.wp P a w K Q := by
  simp only [evalO] at he
  have h1 := compX_rep hx h
  cases hfz : e.freezes (refsOf (e.get x')) with
  | none => simp [hfz] at he
  | some e1 =>
    simp only [hfz] at he
    obtain ⟨G1, f1, f2, f3, f4, f5⟩ := freezes_rep h (refsOf_rep h1) hfz
    cases hv1 : e1.view1 (e.get x') with
    | none => simp [hv1] at he
    | some B =>
      simp only [hv1] at he
      have h1' : RepT0 w G1 e1 (a.eval x) (e.get x') := by
        refine f2.t _ _ (h1.t0 (fun l => ⟨fun hh => ?_, fun hh => ?_⟩) (fun f l hh => ?_)) <;> (rw [hh] at hv1; simp [Env.view1, AV.pure] at hv1)
      obtain ⟨hrB, hpB⟩ := view1_rep h1' hv1
      obtain ⟨m, hm, hrep⟩ : ∃ m, AV.slOf B = some m ∧ RepR w G1.ok (a.eval x) (.sl m) := by
        cases B <;> simp only [AV.slOf] at he ⊢ <;> try (cases he; done)
        case nil =>
          refine ⟨[], rfl, ?_⟩
          have := inv_nil (w := w) (G := G1) (e := e1) (show RepT w G1 e1 (a.eval x) .nil from hrB)
          rw [this]; exact .sl0 _ _
        case sl m => exact ⟨m, rfl, hrB⟩
      rw [hm] at he
      simp only at he
      cases hl : intArg 0 (lo'.map e.get) with
      | none => simp [hl] at he
      | some l =>
        cases hh : intArg m.length (hi'.map e.get) with
        | none => simp [hl, hh] at he
        | some hgh =>
          simp only [hl, hh] at he
          by_cases hb : 0 ≤ l ∧ l ≤ hgh ∧ hgh ≤ (m.length : Int) ∧ m.all (fun y => y.length == c) = true
          case neg => rw [if_neg hb] at he; cases he
          rw [if_pos hb] at he
          cases he
          obtain ⟨b1, b2, b3, b4⟩ := hb
          obtain ⟨ad, cap, hv, hcap⟩ := inv_sl hrep
          have hrun : (execOp a.eval o).run P w = .ok (.value (sliced ad l.toNat hgh.toNat cap c)) w := by
            have c1 : (0 : Int) ≤ hgh := by omega
            have c2 : l ≤ ((hgh.toNat : Nat) : Int) := by omega
            have c3 : hgh ≤ (cap : Int) := by omega
            have hcap' : P.elem t = el := by simp [Program.elem, ht]
            have hz := run_sizeOf hc w
            rcases intArg_inv h hlo hl with ⟨rfl, _, hl0⟩ | ⟨lx, _, kl, rfl, _, hle⟩ <;> rcases intArg_inv h hhi hh with ⟨rfl, _, hh0⟩ | ⟨hx', _, kh, rfl, _, hhe⟩
            · subst hl0; subst hh0
              simp [execOp, ho, hv, Instr.sliceAt, Instr.slice, run_underlying ht, Instr.sliceBounds, hz, sliced]
            · subst hl0
              simp [execOp, ho, hv, hhe, Instr.sliceAt, Instr.slice, run_underlying ht, Instr.sliceBounds, run_sliceBound w kh hgh cap _ c1 c3, hz, sliced]
            · subst hh0
              simp [execOp, ho, hv, hle, Instr.sliceAt, Instr.slice, run_underlying ht, Instr.sliceBounds, run_sliceBound w kl l m.length _ b1 b2, hz, sliced]
            · simp [execOp, ho, hv, hle, hhe, Instr.sliceAt, Instr.slice, run_underlying ht, Instr.sliceBounds, run_sliceBound w kh hgh cap _ c1 c3, run_sliceBound w kl l hgh.toNat _ b1 c2, hz, sliced]
          refine wp_value hrun (hK _ _ _ (f1.put o.dst (RepR.toT ?_)))
          have hlen : ((m.take hgh.toNat).drop l.toNat).length = hgh.toNat - l.toNat := by simp; omega
          by_cases hempty : hgh.toNat - l.toNat = 0
          · have h0 : (m.take hgh.toNat).drop l.toNat = [] := List.eq_nil_of_length_eq_zero (by rw [hlen]; exact hempty)
            rw [h0]
            unfold sliced
            rw [hempty]
            exact .sl0 _ _
          · generalize a.eval x = va at hv hrep
            subst hv
            generalize hmn : m.length = mn at hrep
            cases hrep with
            | sl0 _ _ => simp at b3; omega
            | sl b off cap c' _ u hcap hcc hcell hpure hrep =>
              have hlt0 : 0 < m.length := by omega
              have hc' : c' = c := by
                have h5 := hcc 0 hlt0
                have h6 := List.all_eq_true.1 b4 (m.getD 0 []) (by
                  rw [List.getD_eq_getElem?_getD, List.getElem?_eq_getElem hlt0]; simp)
                have h7 : (m.getD 0 []).length = c := by simpa using h6
                rw [← h5, h7]
              subst hc'
              have hg : ∀ i, i < hgh.toNat - l.toNat → ((m.take hgh.toNat).drop l.toNat).getD i [] = m.getD (l.toNat + i) [] := fun i hi => by
                have h8 : l.toNat + i < hgh.toNat := by omega
                simp [List.getD_eq_getElem?_getD, List.getElem?_drop, List.getElem?_take, h8]
              have hne : ¬ (cap = l.toNat) := by omega
              unfold sliced
              rw [if_neg hne]
              simp only [Option.map_some, Addr.add_lit]
              rw [← hlen]
              refine .sl b (off + l.toNat * c') (cap - l.toNat) c' _ (fun i j => u (l.toNat + i) j) (by rw [hlen]; omega) (fun i hi => ?_) (fun i j hi hj => ?_) (fun i j hi hj => ?_) (fun i j hi hj => ?_)
              · rw [hlen] at hi; rw [hg i hi]; exact hcc _ (by omega)
              · rw [hlen] at hi
                have := hcell (l.toNat + i) j (by omega) hj
                rw [Nat.add_mul] at this
                have e9 : off + l.toNat * c' + i * c' + j = off + (l.toNat * c' + i * c') + j := by omega
                rw [e9]; exact this
              · rw [hlen] at hi; rw [hg i hi]; exact hpure _ j (by omega) hj
              · rw [hlen] at hi; rw [hg i hi]; exact hrep _ j (by omega) hj
/-! ### Functions that are made on the way -/
omit [Dr] in
theorem RepT.t1 {v : Value} {A : AV} (h : RepT w G e v A) (hA : A.capt = true) : RepT1 w G e v A := by
  cases A <;> first | exact h | (simp [AV.capt] at hA; done)
theorem sim_clo (h : Rel w0 L ok0 e a w G) {f : Nat} {first caps : Array Operand} {xs : List X} (ho : o.op = .makeFunc (.func f) first caps) (h0 : first.size = 0) (hxs : compXs caps.toList = some xs)
    (he : evalO R e o.dst (.clo f xs) = some e') (hK : ∀ a' w' G', Rel w0 L ok0 e' a' w' G' → K a' w') : o.wp P a w K Q := by
  simp only [evalO] at he
  obtain ⟨x1, x2⟩ := compXs_rep hxs h
  have hf0 : first = #[] := Array.eq_empty_of_size_eq_zero h0
  have hrun : (execOp a.eval o).run P w = .ok (.value (.func (.func f) #[] (caps.map a.eval))) w := by simp [execOp, ho, hf0, Instr.makeFunc]
  have hv : ∀ j, j < xs.length → RepT w G e ((caps.map a.eval).getD j undef) ((xs.map e.get).getD j .unk) := fun j hj => by
    have := x2 j hj
    have e1 : (caps.map a.eval).getD j undef = (caps.toList.map a.eval).getD j undef := by
      rw [List.getD_eq_getElem?_getD, ← Array.toList_map, Array.getElem?_toList, Array.getD_eq_getD_getElem?]
    rw [e1]
    have e2 : (xs.map e.get).getD j .unk = e.get (xs.getD j default) := by
      simp [List.getD_eq_getElem?_getD, List.getElem?_eq_getElem hj]
    rw [e2]; exact this
  have hsz : (caps.map a.eval).size = (xs.map e.get).length := by simp [x1]
  have hmem : ∀ j, j < (xs.map e.get).length → (xs.map e.get).getD j .unk ∈ xs.map e.get := fun j hj => by
    rw [List.getD_eq_getElem?_getD, List.getElem?_eq_getElem hj]; exact List.getElem_mem hj
  by_cases hp : (xs.map e.get).all (fun A => A.pure) = true
  · rw [if_pos hp] at he
    cases he
    have hpp : ∀ j, j < (xs.map e.get).length → ((xs.map e.get).getD j .unk).pure = true := fun j hj => List.all_eq_true.1 hp _ (hmem j hj)
    refine wp_value hrun (hK _ _ _ (h.put o.dst (RepR.toT (.fn f _ _ hsz (fun j hj => .inl (hpp j hj)) (fun j hj => ?_)))))
    have := hv j (by simpa using hj)
    have hq := hpp j hj
    generalize (xs.map e.get).getD j .unk = B at this hq
    cases B <;> simp [AV.pure] at hq <;> exact this
  · rw [if_neg hp] at he
    by_cases hc : (xs.map e.get).all AV.capt = true
    case neg => rw [if_neg hc] at he; cases he
    rw [if_pos hc] at he
    cases he
    exact wp_value hrun (hK _ _ _ (h.put o.dst (show RepT w G e _ (.fnp f (xs.map e.get)) from ⟨_, rfl, hsz, fun j hj => (hv j (by simpa using hj)).t1 (List.all_eq_true.1 hc _ (hmem j hj))⟩)))
/-- A variable of its own is read only from now on. -/
theorem frzB_rep (h : Rel w0 L ok0 e a w G) {n d g v : Nat} {ob : AObj} {l : List AV} (hA : e.tmps.getD n .unk = .ptr d g v [] 0) (ho : e.obj d g = some ob) (hk : ob.k = .box l) (hp : l.all AV.pure = true) :
    ∃ G1, Rel w0 L ok0 ⟨e.tmps.set n (.el l), e.objs.set d ⟨ob.gen, ob.vs, .dead⟩⟩ a w G1 ∧ (∀ b o, G.ok b o → G1.ok b o) ∧ RepR w G1.ok (a.tmps.getD n undef) (.el l) := by
  obtain ⟨hod, hog⟩ := Env.obj_some.1 ho
  have hd : d < e.objs.length := lt_obj hod
  have hn : n < e.tmps.length := by
    rcases Nat.lt_or_ge n e.tmps.length with hn | hn
    · exact hn
    · simp [List.getD_eq_getElem?_getD, List.getElem?_eq_none hn] at hA
  have hrep := h.tmps n hn
  rw [hA] at hrep
  obtain ⟨_, b, o1, hv, hc⟩ := (show RepT0 w G e (a.tmps.getD n undef) (.ptr d g v [] 0) from hrep)
  obtain ⟨rfl, rfl⟩ := hc l (by simp only [Env.cellsP, ho, hk])
  have hO := h.objs d hd
  rw [Env.kind_of hod, hk] at hO
  obtain ⟨hown, vs, T, hb, hsz, hcell⟩ := hO
  have hne : ∀ b p, G.own b = some p → p ≠ (d, [], none) → b ≠ G.bl d := fun b p hb hp hh => hp (by rw [hh, hown] at hb; exact (Option.some.inj hb).symm)
  let G1 : Gh := { G with ok := fun b o => G.ok b o ∨ b = G.bl d, own := fun b => if b = G.bl d then none else G.own b }
  let e1 : Env := ⟨e.tmps.set n (.el l), e.objs.set d ⟨ob.gen, ob.vs, .dead⟩⟩
  have hok : ∀ b o, G.ok b o → G1.ok b o := fun _ _ hh => .inl hh
  have mono : ∀ {v A}, RepR w G.ok v A → RepR w G1.ok v A := fun hr => hr.mono hok (fun _ _ _ => SameAt.refl)
  have at1 : ∀ d1 : Nat, e1.objs[d1]? = if d1 = d then some ⟨ob.gen, ob.vs, .dead⟩ else e.objs[d1]? := fun d1 => by
    simp only [e1, List.getElem?_set]
    by_cases hdd : d = d1
    · subst hdd; simp [hd]
    · simp [hdd, Ne.symm hdd]
  have obj1 : ∀ d1 g1 o', e1.obj d1 g1 = some o' → (d1 ≠ d ∧ e.obj d1 g1 = some o') ∨ (d1 = d ∧ o'.k = .dead ∧ e.obj d1 g1 = some ob ∧ o'.vs = ob.vs) := fun d1 g1 o' hh => by
    obtain ⟨k1, k2⟩ := Env.obj_some.1 hh
    rw [at1] at k1
    by_cases hdd : d1 = d
    · rw [if_pos hdd] at k1; cases k1
      exact .inr ⟨hdd, rfl, by rw [hdd]; exact Env.obj_some.2 ⟨hod, k2⟩, rfl⟩
    · rw [if_neg hdd] at k1
      exact .inl ⟨hdd, Env.obj_some.2 ⟨k1, k2⟩⟩
  have gen1 : ∀ d1, e1.gen d1 = e.gen d1 := fun d1 => by
    simp only [Env.gen, at1]
    by_cases hdd : d1 = d
    · rw [if_pos hdd, hdd, hod]
    · rw [if_neg hdd]
  have len1 : e1.objs.length = e.objs.length := by simp [e1]
  have lives : ∀ {d1 g1 v1 q1 j1}, Lives e d1 g1 v1 q1 j1 → Lives e1 d1 g1 v1 q1 j1 := fun ⟨k1, k2, k3⟩ => ⟨by rw [len1]; exact k1, by rw [gen1]; exact k2, fun o' hh => by
    rcases obj1 _ _ _ hh with ⟨_, k⟩ | ⟨_, _, k, k'⟩
    · exact k3 o' k
    · have := k3 ob k
      simpa only [AObj.ver, k'] using this⟩
  have cell1 : ∀ {d1 g1 v1 q1 j1 C}, e1.cellR d1 g1 v1 q1 j1 = some C → e.cellR d1 g1 v1 q1 j1 = some C := fun {d1 g1 v1 q1 j1 C} hh => by
    unfold Env.cellR at hh
    cases ho' : e1.obj d1 g1 with
    | none => simp [ho'] at hh
    | some o' =>
      rcases obj1 _ _ _ ho' with ⟨_, k⟩ | ⟨_, k, _, _⟩
      · unfold Env.cellR; rw [k]; rw [ho'] at hh; exact hh
      · simp only [ho', k, OK.cells] at hh
        split at hh <;> cases hh
  have cells1 : ∀ {d1 g1 v1 q1 m}, e1.cellsP d1 g1 v1 q1 = some m → e.cellsP d1 g1 v1 q1 = some m := fun {d1 g1 v1 q1 m} hh => by
    unfold Env.cellsP at hh
    cases ho' : e1.obj d1 g1 with
    | none => simp [ho'] at hh
    | some o' =>
      rcases obj1 _ _ _ ho' with ⟨_, k⟩ | ⟨_, k, _, _⟩
      · unfold Env.cellsP; rw [k]; rw [ho'] at hh; exact hh
      · cases q1 with
        | nil => simp [ho', k] at hh
        | cons s q1 => simp only [ho', k, OK.cells] at hh; split at hh <;> cases hh
  have pb1 : ∀ d1 q1, pblk G1 d1 q1 = pblk G d1 q1 := fun d1 q1 => by cases q1 <;> rfl
  have r0 : ∀ {v A}, RepT0 w G e v A → RepT0 w G1 e1 v A := fun {v A} hr => by
    cases A <;> try (have h9 : RepR w G.ok v _ := hr; have h8 := mono h9; exact h8)
    · obtain ⟨k1, k2, k3, k4⟩ := hr
      exact ⟨lives k1, fun E c l hh => k2 E c l (cell1 hh), fun l hh => mono (k3 l (cell1 hh)), k4⟩
    · rename_i d1 g1 v1 q1 j1
      obtain ⟨k1, b, o, k2, k3⟩ := hr
      refine ⟨?_, b, o, k2, fun m hm => by rw [pb1]; exact k3 m (cells1 hm)⟩
      cases q1 with
      | nil => exact ⟨by rw [len1]; exact k1.1, by rw [gen1]; exact k1.2⟩
      | cons s q1 => exact lives k1
    · obtain ⟨k1, k2, r, k3, k4⟩ := hr
      refine ⟨by rw [len1]; exact k1, by rw [gen1]; exact k2, r, k3, fun o' hh => ?_⟩
      rcases obj1 _ _ _ hh with ⟨_, k⟩ | ⟨_, _, k, _⟩
      · exact k4 _ k
      · exact k4 _ k
  have r1 : ∀ {v A}, RepT1 w G e v A → RepT1 w G1 e1 v A := fun {v A} hr => by
    have h8 := @r0 v A
    cases A <;> try exact h8 hr
    obtain ⟨vs, k1, k2, k3⟩ := hr
    exact ⟨vs, k1, k2, fun j hj => r0 (k3 j hj)⟩
  have rT : ∀ {v A}, RepT w G e v A → RepT w G1 e1 v A := fun {v A} hr => by
    have h8 := @r1 v A
    cases A <;> try exact h8 hr
    · obtain ⟨vs, k1, k2, k3⟩ := hr
      exact ⟨vs, k1, k2, fun j hj => r1 (k3 j hj)⟩
    · obtain ⟨vs, k1, k2, k3⟩ := hr
      exact ⟨vs, k1, k2, fun j hj => r1 (k3 j hj)⟩
  have hmem : ∀ j, j < l.length → (l.getD j .unk).pure = true := fun j hj => List.all_eq_true.1 hp _ (by
    rw [List.getD_eq_getElem?_getD, List.getElem?_eq_getElem hj]; exact List.getElem_mem hj)
  have hel : RepR w G1.ok (a.tmps.getD n undef) (.el l) := by
    rw [hv]
    refine .el _ 0 l (fun j => vs.getD j undef) (fun j hj => ⟨.inr rfl, ?_⟩) hmem (fun j hj => mono ((hcell j hj).pureInv (hmem j hj)))
    simp only [Nat.zero_add]
    show w.cell? ⟨G.bl d, j, none⟩ = some (vs.getD j undef)
    have hjs : j < vs.size := by omega
    simp [World.cell?, hb, Array.getD_eq_getD_getElem?, Array.getElem?_eq_getElem hjs, pblk]
  refine ⟨G1, ⟨h.fr, by simpa using h.size, fun t ht => ?_, h.defers, fun b o hb' => ?_, fun b o hb' => hok _ _ (h.okm b o hb'), fun b o hb1 hb2 hb3 => ?_, fun b p hb' => ?_, fun d1 hd1 => ?_, fun d1 o' m ho' hm => ?_, fun p hp' => r0 (h.pins p hp')⟩, hok, hel⟩
  · have ht' : t < e.tmps.length := by simpa using ht
    by_cases htn : t = n
    · subst htn
      show RepT w G1 e1 _ ((e.tmps.set t (.el l)).getD t .unk)
      rw [getD_set_eq _ _ _ _ ht']
      exact hel
    · show RepT w G1 e1 _ ((e.tmps.set n (.el l)).getD t .unk)
      rw [getD_set_ne _ _ _ _ _ (Ne.symm htn)]
      exact rT (h.tmps t ht')
  · rcases hb' with hb' | hb'
    · exact h.okb b o hb'
    · rw [hb']; exact (h.own _ _ hown).1
  · rcases hb3 with hb3 | hb3
    · exact h.ok0 b o hb1 hb2 hb3
    · rcases (h.own _ _ hown).2.1 with k | k
      · omega
      · exact absurd (by rw [hb3]; exact k) hb2
  · simp only [G1] at hb'
    split at hb'
    · cases hb'
    · rename_i hbn
      obtain ⟨x1, x2, x3⟩ := h.own b p hb'
      exact ⟨x1, x2, fun o hh => hh.elim (x3 o) hbn⟩
  · have hd1' : d1 < e.objs.length := by rw [← len1]; exact hd1
    by_cases hdd : d1 = d
    · have : Env.kind e1 d1 = .dead := by simp only [Env.kind, at1]; rw [if_pos hdd]
      show RepO w G1 d1 (Env.kind e1 d1)
      rw [this]; trivial
    · have hk1 : Env.kind e1 d1 = e.kind d1 := by simp only [Env.kind, at1]; rw [if_neg hdd]
      show RepO w G1 d1 (Env.kind e1 d1)
      rw [hk1]
      have hO1 := h.objs d1 hd1'
      have own1 : ∀ b p, G.own b = some p → p ≠ (d, [], none) → G1.own b = some p := fun b p hb hp => by
        simp only [G1]; rw [if_neg (hne b p hb hp)]; exact hb
      have cm : ∀ {j v A}, RepC w G d1 [] j v A → RepC w G1 d1 [] j v A := fun hr => hr.mono hok (fun _ _ _ => SameAt.refl) (fun q1 j1 _ => ⟨rfl, fun b hb => ⟨own1 b _ hb (fun hh => by cases hh), rfl⟩⟩)
      generalize e.kind d1 = kk at hO1
      cases kk with
      | dead => trivial
      | box m =>
        obtain ⟨k1, vs, T, k2, k3, k4⟩ := hO1
        exact ⟨own1 _ _ k1 (fun hh => by cases hh; exact hdd rfl), vs, T, k2, k3, fun j hj => cm (k4 j hj)⟩
      | val m => exact fun j hj => cm (hO1 j hj)
      | map m =>
        obtain ⟨k1, es, ck, k2, k3, k4⟩ := hO1
        exact ⟨own1 _ _ k1 (fun hh => by cases hh; exact hdd rfl), es, ck, k2, k3, fun i hi => ⟨mono (k4 i hi).1, (k4 i hi).2.1, mono (k4 i hi).2.2.1, (k4 i hi).2.2.2⟩⟩
  · have ho'' : e1.objs[d1]? = some o' := ho'
    rw [at1] at ho''
    by_cases hdd : d1 = d
    · rw [if_pos hdd] at ho''; cases ho''; cases hm
    · rw [if_neg hdd] at ho''; exact h.vlen d1 o' m ho'' hm
def AV.fnOk (A : AV) : Prop := A.pure = true ∨ ∃ m, A = .agg m ∨ A = .el m
theorem frzT_rep (h : Rel w0 L ok0 e a w G) {x : Operand} {x' : X} {A : AV} {e1 : Env} (hx : compX x = some x') (ht : e.frzT x' = some (A, e1)) : ∃ G1, Rel w0 L ok0 e1 a w G1 ∧ (∀ b o, G.ok b o → G1.ok b o) ∧ RepR w G1.ok (a.eval x) A ∧ A.fnOk := by
  have hr := compX_rep hx h
  have pureCase : ∀ {B}, RepT w G e (a.eval x) B → B.pure = true → some (B, e) = some (A, e1) → ∃ G1, Rel w0 L ok0 e1 a w G1 ∧ (∀ b o, G.ok b o → G1.ok b o) ∧ RepR w G1.ok (a.eval x) A ∧ A.fnOk := fun {B} hB hpB heq => by
    cases heq
    refine ⟨G, h, fun _ _ hh => hh, ?_, .inl hpB⟩
    cases A <;> simp [AV.pure] at hpB <;> exact hB
  cases x' with
  | c B =>
    simp only [Env.frzT] at ht
    split at ht
    · rename_i hpB
      exact pureCase (B := B) hr hpB ht
    · cases ht
  | t n =>
    have hxn : x = .tmp n := by
      unfold compX at hx
      split at hx <;> first | (cases hx; done) | (cases hx; rfl)
    subst hxn
    have hr' : RepT w G e (a.tmps.getD n undef) (e.tmps.getD n .unk) := hr
    simp only [Env.frzT] at ht
    cases hA : e.tmps.getD n .unk <;> simp only [hA] at ht hr' <;> try (split at ht <;> first | (cases ht; done) | (rename_i hpB; exact pureCase (by first | exact hr' | (have := hr; rw [show e.get (.t n) = _ from hA] at this; exact this)) hpB ht))
    · cases ht
      exact ⟨G, h, fun _ _ hh => hh, hr', .inr ⟨_, .inr rfl⟩⟩
    · rename_i d g v q j
      cases q with
      | cons s q => simp at ht
      | nil =>
        cases j with
        | succ j => simp at ht
        | zero =>
          simp only at ht
          cases ho : e.obj d g with
          | none => simp [ho] at ht
          | some ob =>
            simp only [ho] at ht
            cases hk : ob.k <;> simp only [hk] at ht <;> try (cases ht; done)
            rename_i l
            split at ht
            · rename_i hp
              cases ht
              obtain ⟨G1, k1, k2, k3⟩ := frzB_rep h hA ho hk hp
              exact ⟨G1, k1, k2, k3, .inr ⟨_, .inr rfl⟩⟩
            · cases ht
theorem frzTs_rep : ∀ {l : List Operand} {xs : List X} {e e1 : Env} {G : Gh} {As : List AV}, Rel w0 L ok0 e a w G → compXs l = some xs → e.frzTs xs = some (As, e1) →
    ∃ G1, Rel w0 L ok0 e1 a w G1 ∧ (∀ b o, G.ok b o → G1.ok b o) ∧ As.length = l.length ∧ ∀ j, j < l.length → RepR w G1.ok ((l.map a.eval).getD j undef) (As.getD j .unk) ∧ (As.getD j .unk).fnOk
  | [], xs, e, e1, G, As, h, hx, ht => by
    simp only [compXs, Option.some.injEq] at hx
    subst hx
    simp only [Env.frzTs, Option.some.injEq, Prod.mk.injEq] at ht
    obtain ⟨rfl, rfl⟩ := ht
    exact ⟨G, h, fun _ _ hh => hh, rfl, fun j hj => absurd hj (by simp)⟩
  | x :: l, xs, e, e1, G, As, h, hx, ht => by
    simp only [compXs] at hx
    cases h1 : compX x with
    | none => simp [h1] at hx
    | some x' =>
      cases h2 : compXs l with
      | none => simp [h1, h2] at hx
      | some ys =>
        simp only [h1, h2, Option.some.injEq] at hx
        subst hx
        simp only [Env.frzTs] at ht
        cases h3 : e.frzT x' with
        | none => simp [h3] at ht
        | some r =>
          obtain ⟨A, e2⟩ := r
          simp only [h3] at ht
          cases h4 : e2.frzTs ys with
          | none => simp [h4] at ht
          | some r =>
            obtain ⟨m, e3⟩ := r
            simp only [h4, Option.some.injEq, Prod.mk.injEq] at ht
            obtain ⟨rfl, rfl⟩ := ht
            obtain ⟨G1, a1, a2, a3, a4⟩ := frzT_rep h h1 h3
            obtain ⟨G2, b1, b2, b3, b4⟩ := frzTs_rep a1 h2 h4
            refine ⟨G2, b1, fun b o hh => b2 b o (a2 b o hh), by simp [b3], fun j hj => ?_⟩
            cases j with
            | zero => exact ⟨a3.mono b2 (fun _ _ _ => SameAt.refl), a4⟩
            | succ j => simpa using b4 j (by simpa using hj)
theorem sim_clof (h : Rel w0 L ok0 e a w G) {f : Nat} {first caps : Array Operand} {xs : List X} (ho : o.op = .makeFunc (.func f) first caps) (h0 : first.size = 0) (hxs : compXs caps.toList = some xs)
    (he : evalO R e o.dst (.clof f xs) = some e') (hK : ∀ a' w' G', Rel w0 L ok0 e' a' w' G' → K a' w') : o.wp P a w K Q := by
  simp only [evalO] at he
  have hf0 : first = #[] := Array.eq_empty_of_size_eq_zero h0
  have hrun : (execOp a.eval o).run P w = .ok (.value (.func (.func f) #[] (caps.map a.eval))) w := by simp [execOp, ho, hf0, Instr.makeFunc]
  cases hfz : e.frzTs xs with
  | none => simp [hfz] at he
  | some r =>
    obtain ⟨As, e1⟩ := r
    simp only [hfz, Option.some.injEq] at he
    subst he
    obtain ⟨G1, a1, a2, a3, a4⟩ := frzTs_rep h hxs hfz
    refine wp_value hrun (hK _ _ _ (a1.put o.dst (RepR.toT (.fn f _ As (by simp [a3]) (fun j hj => (a4 j (by omega)).2) (fun j hj => ?_)))))
    have := (a4 j (by omega)).1
    rw [List.getD_eq_getElem?_getD, ← Array.toList_map, Array.getElem?_toList, ← Array.getD_eq_getD_getElem?] at this
    exact this
/-! ### Comparisons with nil -/
omit [Dr] in
theorem inv_nilp {v : Value} (h : RepT w G e v .nilp) : v = .pointer none := by
  cases (show RepR w G.ok v .nilp from h); rfl
omit [Dr] in
theorem equalIn_ptr {d : Nat} {T pt : TypeId} (p : Option Addr) (h : P.underlying T = some (.pointer pt)) : (Op.equalIn (d + 1) T (.pointer p) (.pointer none)).run P w = .ok p.isNone w := by
  cases p <;> simp [Op.equalIn, run_underlying h]
omit [Dr] in
theorem equalIn_sl {d : Nat} {T pt : TypeId} (p : Option Addr) (n c : Nat) (h : P.underlying T = some (.slice pt)) : (Op.equalIn (d + 1) T (.slice p n c) (.slice none 0 0)).run P w = .ok p.isNone w := by
  cases p <;> simp [Op.equalIn, run_underlying h]
omit [Dr] in
theorem equal_ptr {T pt : TypeId} (p : Option Addr) (h : P.underlying T = some (.pointer pt)) : (Op.equal T (.pointer p) (.pointer none)).run P w = .ok p.isNone w := equalIn_ptr (d := 9999) p h
omit [Dr] in
theorem equal_sl {T pt : TypeId} (p : Option Addr) (n c : Nat) (h : P.underlying T = some (.slice pt)) : (Op.equal T (.slice p n c) (.slice none 0 0)).run P w = .ok p.isNone w := equalIn_sl (d := 9999) p n c h
omit [Dr] in
theorem run_isp {op : BinOp} {T U pt : TypeId} {x y : Operand} {ne : Bool} (p : Option Addr) (ho : o.op = .binOp op T x y U) (hop : op = if ne then .neq else .eql) (hT : P.underlying T = some (.pointer pt)) (e1 : a.eval x = .pointer p) (e2 : a.eval y = .pointer none) :
    (execOp a.eval o).run P w = .ok (.value (.bool (if ne then !p.isNone else p.isNone))) w := by
  subst hop
  have hb : ∀ ne : Bool, (binOp (if ne = true then .neq else .eql) T (.pointer p) (.pointer none)).run P w = .ok (.bool (if ne then !p.isNone else p.isNone)) w := fun ne => by
    cases ne <;> simp only [binOp] <;> simp [equal_ptr p hT]
  simp only [execOp, ho, Sem.run_bind, e1, e2, eqGuard_at_pointer, Sem.run_pure, Result.andThen_ok, hb]
omit [Dr] in
theorem run_iss {op : BinOp} {T U pt : TypeId} {x y : Operand} {ne : Bool} (p : Option Addr) (n c : Nat) (ho : o.op = .binOp op T x y U) (hop : op = if ne then .neq else .eql) (hT : P.underlying T = some (.slice pt)) (e1 : a.eval x = .slice p n c) (e2 : a.eval y = .slice none 0 0) :
    (execOp a.eval o).run P w = .ok (.value (.bool (if ne then !p.isNone else p.isNone))) w := by
  subst hop
  have hb : ∀ ne : Bool, (binOp (if ne = true then .neq else .eql) T (.slice p n c) (.slice none 0 0)).run P w = .ok (.bool (if ne then !p.isNone else p.isNone)) w := fun ne => by
    cases ne <;> simp only [binOp] <;> simp [equal_sl p n c hT]
  simp only [execOp, ho, Sem.run_bind, e1, e2, eqGuard_at_slice, Sem.run_pure, Result.andThen_ok, hb]
theorem sim_isnp (h : Rel w0 L ok0 e a w G) {ne : Bool} {op : BinOp} {T U pt : TypeId} {x y : Operand} {x' : X} (hx : compX x = some x') (hy : compX y = some (.c .nilp)) (ho : o.op = .binOp op T x y U)
    (hop : op = if ne then .neq else .eql) (hT : P.underlying T = some (.pointer pt))
    (he : act e (.isn true ne x') = some A) : SimV P o a w G e A := by
  have h1 := compX_rep hx h
  have e2 : a.eval y = .pointer none := inv_nilp (compX_rep hy h)
  have nn : ∀ ad : Addr, a.eval x = .pointer (some ad) → some (AV.bool ne) = some A → SimV P o a w G e A := fun ad hv hA =>
    sim_val0 h (v := .bool ne) (by rw [run_isp (some ad) ho hop hT hv e2]; cases ne <;> rfl) (RepR.bool _).toT hA
  simp only [act] at he
  cases hgx : e.get x' <;> simp only [hgx] at he h1 <;> try (cases he; done)
  case nilp => exact sim_val0 h (v := .bool (!ne)) (by rw [run_isp none ho hop hT (inv_nilp h1) e2]; cases ne <;> rfl) (RepR.bool _).toT he
  case el l =>
    obtain ⟨b, o1, u, hv, _⟩ := inv_el h1
    exact nn _ hv he
  case ptr d g n q j =>
    obtain ⟨_, b, o1, hv, _⟩ := h1
    exact nn _ hv he
theorem sim_isns (h : Rel w0 L ok0 e a w G) {ne : Bool} {op : BinOp} {T U pt : TypeId} {x y : Operand} {x' : X} (hx : compX x = some x') (hy : compX y = some (.c .nil)) (ho : o.op = .binOp op T x y U)
    (hop : op = if ne then .neq else .eql) (hT : P.underlying T = some (.slice pt))
    (he : act e (.isn false ne x') = some A) : SimV P o a w G e A := by
  have h1 := compX_rep hx h
  have e2 : a.eval y = .slice none 0 0 := inv_nil (compX_rep hy h)
  have nn : ∀ l : List (List AV), l ≠ [] → e.elems (e.get x') = some l → some (AV.bool ne) = some A → SimV P o a w G e A := fun l hl hv hA => by
    rcases elems_cells h h1 hv with ⟨rfl, _⟩ | ⟨b, off, cap, c, u, hva, _⟩
    · exact absurd rfl hl
    · exact sim_val0 h (v := .bool ne) (by rw [run_iss _ _ _ ho hop hT hva e2]; cases ne <;> rfl) (RepR.bool _).toT hA
  simp only [act] at he
  split at he
  · rename_i hgx
    rw [hgx] at h1
    exact sim_val0 h (v := .bool (!ne)) (by rw [run_iss _ _ _ ho hop hT (inv_nil h1) e2]; cases ne <;> rfl) (RepR.bool _).toT he
  · split at he
    · rename_i hel
      exact nn _ (by simp) hel he
    · cases he
/-! ### The greater, the smaller -/
theorem sim_max (h : Rel w0 L ok0 e a w G) {x y : Operand} {x' y' : X} {c : Call} (ho : o.op = .call c) (hc : c.callee = .builtin .max) (hargs : c.args = #[x, y]) (hx : compX x = some x') (hy : compX y = some y')
    (he : act e (.mnx true x' y') = some A) : SimV P o a w G e A := by
  simp only [act] at he
  obtain ⟨v, hr, hv⟩ := mnxA_max (P := P) (w := w) (G := G) he (compX_rep hx h) (compX_rep hy h)
  exact ⟨v, by simp [execOp, ho, resolve, hc, hargs, invoke, builtin, Builtin.max_, hr], hv.toT⟩
theorem sim_min (h : Rel w0 L ok0 e a w G) {x y : Operand} {x' y' : X} {c : Call} (ho : o.op = .call c) (hc : c.callee = .builtin .min) (hargs : c.args = #[x, y]) (hx : compX x = some x') (hy : compX y = some y')
    (he : act e (.mnx false x' y') = some A) : SimV P o a w G e A := by
  simp only [act] at he
  obtain ⟨v, hr, hv⟩ := mnxA_min (P := P) (w := w) (G := G) he (compX_rep hx h) (compX_rep hy h)
  exact ⟨v, by simp [execOp, ho, resolve, hc, hargs, invoke, builtin, Builtin.min_, hr], hv.toT⟩
end
end Go.Nv
/- BY VALUE, with trees. Part 25: what is said of a function. -/
namespace Go.Nv
variable [Dr]
open Go.RowKit
/-- An argument: read; or lent, told at its own number. -/
def RepA (w : World) (G : Gh) (k : Nat) (v : Value) : AV → Prop
  | .row E c l => RepC w G k [] 0 v (.row E c l)
  | .bx l => v = .pointer (some ⟨G.bl k, 0, none⟩) ∧ RepO w G k (.box l)
  | A => RepR w G.ok v A
/-- A part of a result: its rows lie at a place, from a cell on. -/
def RepS1 (w : World) (G : Gh) (N j : Nat) (v : Value) : AV → Prop
  | .row E c l => RepC w G N [] j v (.row E c l)
  | .bx l => v = .pointer (some ⟨G.bl N, 0, none⟩) ∧ RepO w G N (.box l)
  | .agg l => ∃ vs : Array Value, v = .agg vs ∧ vs.size = l.length ∧ ∀ i, i < l.length → RepC w G N [] (j + ((l.take i).filter fun A => !A.pure).length) (vs.getD i undef) (l.getD i .unk)
  | A => RepR w G.ok v A
def RepS (w : World) (G : Gh) (N : Nat) (v : Value) : AV → Prop
  | .tup l => ∃ vs : Array Value, v = .tuple vs ∧ vs.size = l.length ∧ ∀ i, i < l.length → RepS1 w G N (rowsOf (.tup (l.take i))).length (vs.getD i undef) (l.getD i .unk)
  | A => RepS1 w G N 0 v A
/-- What is given back, and under which names. -/
def isLent : AV → Bool
  | .row .. => true
  | .bx _ => true
  | _ => false
/-- The numbers of the arguments that are lent. -/
def lentNs : List AV → Nat → List Nat
  | [], _ => []
  | A :: l, k => (if isLent A = true then [k] else []) ++ lentNs l (k + 1)
/-- A function's contract, by value. -/
def VSpec (P : Program) (f : Nat) (as : List AV) (r : AV) : Prop :=
  ∀ (w : World) (vs : List Value) (G : Gh), (∀ b o, G.ok b o → b < w.heap.size) → (∀ b p, G.own b = some p → b < w.heap.size ∧ ∀ o, ¬ G.ok b o) → vs.length = as.length →
    (∀ j, j < as.length → RepA w G j (vs.getD j undef) (as.getD j .unk)) →
    Calls P f vs.toArray w (fun e w' => ∃ v G', e = .returned v ∧ Frame w ⟨fun b => ∃ p, G.own b = some p, []⟩ w' ∧ (∀ b o, G'.ok b o → b < w'.heap.size) ∧ (∀ b o, G.ok b o → G'.ok b o) ∧
      (∀ b o, b < w.heap.size → (¬ ∃ p, G.own b = some p) → G'.ok b o → G.ok b o) ∧ (∀ b p, G'.own b = some p → b < w'.heap.size ∧ (w.heap.size ≤ b ∨ ∃ p, G.own b = some p) ∧ ∀ o, ¬ G'.ok b o) ∧
      match r with
      | .io A outs => RepS w' G' as.length v A ∧ outs.length = (lentNs as 0).length ∧ (∀ i, i < outs.length → RepA w' G' ((lentNs as 0).getD i 0) (vs.getD ((lentNs as 0).getD i 0) undef) (outs.getD i .unk))
      | A => RepS w' G' as.length v A ∧ lentNs as 0 = [])
def callable (P : Program) (f : Nat) : Bool := match P.funcs[f]? with
  | some fn => !(fn.name == "runtime.NumGoroutine") && fn.body.isSome
  | none => false
def VSound (P : Program) (R : Nat → List AV → Option AV) : Prop := ∀ f as r, R f as = some r → VSpec P f as r ∧ callable P f = true
section
variable {P : Program} {w0 w' : World} {L : Lend} {ok0 : Nat → Nat → Prop} {e : Env} {a : Act} {w : World} {G G' : Gh} {o : Oper} {A : AV}
/-- Nothing that is told has turned. -/
theorem Rel.stay (h : Rel w0 L ok0 e a w G) {d : Nat} (hs : StaysO w w' G G' e.objs.length d) (hd : e.objs.length ≤ d) (hfr : Frame w0 L w') (hokb : ∀ b o, G'.ok b o → b < w'.heap.size) (hok0 : ∀ b o, b < w0.heap.size → ¬ L b → G'.ok b o → ok0 b o)
    (hown : ∀ b p, G'.own b = some p → b < w'.heap.size ∧ (w0.heap.size ≤ b ∨ L b) ∧ ∀ o, ¬ G'.ok b o) : Rel w0 L ok0 e a w' G' ∧ Keeps w w' G G' e e := by
  have ht : ∀ v A, RepT0 w G e v A → RepT0 w' G' e v A := by
    intro v A hr
    cases A
    case ref d1 g1 n1 q1 j1 =>
      obtain ⟨r1, r2, r3, r4⟩ := hr
      exact ⟨r1, fun E c l hA => by rw [(hs.lab d1 q1 j1 r1.1 (by have := r1.1; omega)).1]; exact r2 _ _ _ hA, fun l hA => (r3 _ hA).mono hs.ok hs.same, r4⟩
    case ptr d1 g1 n1 q1 j1 =>
      obtain ⟨r1, b, oo, r2, r3⟩ := hr
      have r0 : d1 < e.objs.length := by
        cases q1 with
        | nil => exact r1.1
        | cons s q1 => exact r1.1
      refine ⟨r1, b, oo, r2, fun x hx => ?_⟩
      obtain ⟨c1, c2⟩ := r3 x hx
      refine ⟨?_, c2⟩
      rw [c1]
      cases q1 with
      | nil => exact (hs.bl d1 r0 (by omega)).symm
      | cons s q1 => simp only [pblk, (hs.lab d1 q1 s.1 r0 (by omega)).1]
    case mref d1 g1 =>
      obtain ⟨r1, r2, r, r3, r4⟩ := hr
      exact ⟨r1, r2, r, r3, fun x hx => by rw [hs.bl d1 r1 (by omega)]; exact r4 x hx⟩
    all_goals exact RepR.mono hs.ok hs.same hr
  exact ⟨⟨hfr, h.size, fun t htt => RepT.of0 ht (h.tmps t htt), h.defers, hokb, fun b o hb => hs.ok b o (h.okm b o hb), hok0, hown, fun d1 hd1 => hs.stays (n := 0) d1 _ hd1 (by omega) (h.objs d1 hd1), h.vlen, fun p hp => ht _ _ (h.pins p hp)⟩, ht, rfl, rfl⟩
end
end Go.Nv
/- BY VALUE, with trees. Part 26: what a call is given: things read, things lent. -/
namespace Go.Nv
variable [Dr]
open Go.RowKit
section
variable {P : Program} {w0 w' : World} {L : Lend} {ok0 : Nat → Nat → Prop} {e : Env} {a : Act} {w : World} {G G' : Gh} {o : Oper} {A : AV}
/-! ### What is read -/
omit [Dr] in
theorem norm_rep {ok : Nat → Nat → Prop} {v : Value} {A : AV} (h : RepR w ok v A) (hp : A.pure = true) : RepR w ok v A.norm ∧ A.norm.pure = true := by
  cases A <;> first | exact ⟨h, hp⟩ | (cases hp; done) | skip
  cases h
  exact ⟨.sl0 _ _, rfl⟩
omit [Dr] in
theorem view_rep {v : Value} {A B : AV} (hA : RepT w G e v A) (hv : e.view A = some B) : RepR w G.ok v B ∧ isLent B = false := by
  have one : ∀ {B}, RepT0 w G e v A → (match e.view1 A with | some B => some B.norm | none => none) = some B → RepR w G.ok v B ∧ isLent B = false := fun {B} h0 h1 => by
    cases h2 : e.view1 A with
    | none => simp [h2] at h1
    | some C =>
      simp only [h2, Option.some.injEq] at h1
      subst h1
      obtain ⟨r1, r2⟩ := view1_rep h0 h2
      obtain ⟨s1, s2⟩ := norm_rep r1 r2
      refine ⟨s1, ?_⟩
      generalize C.norm = D at s2
      cases D <;> first | rfl | (cases s2; done)
  cases A
  case agg l =>
    simp only [Env.view] at hv
    cases hm : l.mapM e.view1 with
    | none => simp [hm] at hv
    | some m =>
      simp only [hm, Option.some.injEq] at hv
      subst hv
      obtain ⟨vs, rfl, h2, h3⟩ := hA
      obtain ⟨k1, k2⟩ := omapM hm
      have hj : ∀ j, j < (m.map AV.norm).length → RepR w G.ok (vs.getD j undef) ((m.map AV.norm).getD j .unk) ∧ ((m.map AV.norm).getD j .unk).pure = true := fun j hj => by
        have hj' : j < l.length := by simp at hj; omega
        have e1 : l[j]? = some (l.getD j .unk) := by rw [List.getD_eq_getElem?_getD, List.getElem?_eq_getElem hj']; rfl
        obtain ⟨y, y1, y2⟩ := k2 j _ e1
        obtain ⟨r1, r2⟩ := view1_rep (h3 j hj') y2
        have e2 : (m.map AV.norm).getD j .unk = y.norm := by rw [List.getD_eq_getElem?_getD, List.getElem?_map, y1]; rfl
        rw [e2]
        exact norm_rep r1 r2
      exact ⟨.agg vs _ (by simp [h2, k1]) (fun j hj' => (hj j hj').2) (fun j hj' => (hj j hj').1), rfl⟩
  case el l =>
    simp only [Env.view, Option.some.injEq] at hv
    subst hv
    exact ⟨hA, rfl⟩
  case tup l => simp [Env.view, Env.view1, AV.pure] at hv
  case fnp f l => simp [Env.view, Env.view1, AV.pure] at hv
  all_goals exact one hA hv
/-! ### A variable is emptied -/
theorem empty_rep (h : Rel w0 L ok0 e a w G) {K d : Nat} (hK : e.objs.length ≤ K) {o : AObj} {l : List AV} (ho : e.objs[d]? = some o) (hk : o.k = .box l) :
    ∃ G1, Rel w0 L ok0 (e.setObj d (emptied o l)) a w G1 ∧ Keeps w w G G1 e (e.setObj d (emptied o l)) ∧ G1.ok = G.ok ∧ G1.bl = G.bl ∧ (∀ b d1, G.own b = some (d1, [], none) → G1.own b = some (d1, [], none)) ∧
      (∃ vs T, w.heap[G.bl d]? = some (.cells vs T (0, 0)) ∧ vs.size = l.length ∧ ∀ i, i < l.length → RepC w G1 K [] i (vs.getD i undef) (l.getD i .unk)) ∧
      (∀ K2 k2 v2 B2, e.objs.length ≤ K2 → K2 ≠ K → RepC w G K2 [] k2 v2 B2 → RepC w G1 K2 [] k2 v2 B2) := by
  have hd : d < e.objs.length := lt_obj ho
  have hdK : K ≠ d := by omega
  let src : Nat → Path × Nat := fun t => ([], t)
  let G1 := G.relocF d K src src l.length
  have hl : o.k.cells = some l := by rw [hk]; rfl
  have hun : ∀ i, (List.replicate l.length AV.unk).getD i .unk = .unk := fun i => by
    by_cases hi : i < l.length <;> simp [List.getD_eq_getElem?_getD, hi]
  have t : Turn e d o l [] l (List.replicate l.length .unk) 0 l.length (addRec o.vs [] 0 l.length) false false := ⟨ho, hl, rfl, by simp, by simp, fun i hi hne => absurd ⟨Nat.zero_le _, by omega⟩ hne, h.vlen d o l ho hl, .inl ⟨rfl, fun hh => absurd rfl hh⟩⟩
  have hfz : ∀ i B, 0 ≤ i → i < 0 + l.length → Frz false l (List.replicate l.length .unk) i → (List.replicate l.length AV.unk)[i]? = some (.sl B) → RepR w G1.ok (G.h d [] i) (.sl B) := fun i B _ h2 _ h4 => by
    have := hun i
    rw [List.getD_eq_getElem?_getD, h4] at this; cases this
  have hs : Stays w w G G1 e.objs.length d [] 0 l.length := by
    refine ⟨fun _ _ hh => by show G1.ok _ _; simp only [G1, Gh.relocF_ok]; exact hh, fun _ _ _ => SameAt.refl, fun d1 q1 j1 hd1 hn => ⟨Gh.relocF_h _ (fun hh => by omega), fun b hb => Gh.relocF_other hb _ (fun hh => ?_)⟩, fun d1 b _ hb => Gh.relocF_box hb _,
      fun d1 _ => by simp only [G1, Gh.relocF_bl], fun d1 j1 _ _ => by simp only [G1, Gh.relocF_vs], fun _ _ _ _ _ _ _ _ => rfl, fun _ _ _ _ _ => rfl⟩
    obtain ⟨h1, i, hi, hu⟩ := hh
    exact hn ⟨h1, i, Nat.zero_le _, by omega, hu⟩
  have hO := h.objs d hd
  rw [Env.kind_of ho, hk] at hO
  obtain ⟨o1, vs, T, o2, o3, o4⟩ := hO
  have hR := h.turn t hs h.fr (fun b o hb => h.okb b o (by simp only [G1, Gh.relocF_ok] at hb; exact hb)) (fun b o hb hL hh => h.ok0 b o hb hL (by simp only [G1, Gh.relocF_ok] at hh; exact hh)) (fun b p hp => by
      obtain ⟨p', hp'⟩ := Gh.relocF_inv _ hp
      obtain ⟨x1, x2, x3⟩ := h.own b p' hp'
      exact ⟨x1, x2, fun o hh => x3 o (by simp only [G1, Gh.relocF_ok] at hh; exact hh)⟩)
    (fun _ lb _ vs T hh => ⟨vs, hh, rfl, fun _ _ => rfl⟩) (fun s q' hh => by cases hh)
    (fun i _ _ _ => by rw [hun i]; exact .unk _) hfz (fun hh => by cases hh)
  have henv : t.env = e.setObj d (emptied o l) := by
    simp only [Turn.env, Turn.obj, emptied, hk, OK.withCells, setE]
  rw [henv] at hR
  refine ⟨G1, hR, ⟨fun v A hh => ?_, Env.setObj_len _ _ _, rfl⟩, Gh.relocF_ok _, Gh.relocF_bl _, fun b d1 hb => Gh.relocF_box hb _, ⟨vs, T, o2, o3, fun i hi => ?_⟩, fun K2 k2 v2 B2 hK2 hne hh => ?_⟩
  · rw [← henv]
    exact t.rep0 (fun d1 q1 j1 hn hd1 => (hs.lab d1 q1 j1 hd1 hn).1) hs.bl hs.ok hs.same hfz (fun hh => by cases hh) hh
  · exact (relocF_parts (src := src) (tgt := src) hdK (apart_cells l.length) (apart_cells l.length) o4 l.length (Nat.le_refl _)).1 i hi
  · exact hh.relocF_other _ (fun q2 j2 _ h2 => by omega) (fun q2 j2 _ h2 => hne h2.1)
/-! ### A variable is filled -/
theorem fill_rep (h : Rel w0 L ok0 e a w G) {K d : Nat} (hK : e.objs.length ≤ K) {o : AObj} {l0 l : List AV} (ho : e.objs[d]? = some o) (hk : o.k = .box l0) (hlen : l.length = l0.length) {vs : Array Value} {T : TypeId} (hb : w.heap[G.bl d]? = some (.cells vs T (0, 0)))
    (hc : ∀ i, i < l.length → RepC w G K [] i (vs.getD i undef) (l.getD i .unk)) :
    ∃ G1, Rel w0 L ok0 (e.setObj d (filled o l)) a w G1 ∧ Keeps w w G G1 e (e.setObj d (filled o l)) ∧ G1.ok = G.ok ∧ G1.bl = G.bl ∧ (∀ b d1, G.own b = some (d1, [], none) → G1.own b = some (d1, [], none)) ∧
      (∀ K2 k2 v2 B2, e.objs.length ≤ K2 → K2 ≠ K → RepC w G K2 [] k2 v2 B2 → RepC w G1 K2 [] k2 v2 B2) := by
  have hd : d < e.objs.length := lt_obj ho
  have hdK : d ≠ K := by omega
  let src : Nat → Path × Nat := fun t => ([], t)
  let G1 := G.relocF K d src src l.length
  have hl : o.k.cells = some l0 := by rw [hk]; rfl
  have hO := h.objs d hd
  rw [Env.kind_of ho, hk] at hO
  obtain ⟨o1, vs1, T1, o2, o3, o4⟩ := hO
  have e1 : vs1 = vs := by rw [hb] at o2; cases o2; rfl
  subst e1
  have t : Turn e d o l0 [] l0 l 0 l0.length (addRec o.vs [] 0 l0.length) false false := ⟨ho, hl, rfl, hlen, by simp, fun i hi hne => absurd ⟨Nat.zero_le _, by omega⟩ hne, h.vlen d o l0 ho hl, .inl ⟨rfl, fun hh => absurd rfl hh⟩⟩
  have hparts := (relocF_parts (w := w) (G := G) (src := src) (tgt := src) hdK (apart_cells l.length) (apart_cells l.length) hc l.length (Nat.le_refl _)).1
  have hfz : ∀ i B, 0 ≤ i → i < 0 + l0.length → Frz false l0 l i → l[i]? = some (.sl B) → RepR w G1.ok (G.h d [] i) (.sl B) := fun i B _ h2 h3 h4 => by
    exact absurd h3.1 (by simp)
  have hs : Stays w w G G1 e.objs.length d [] 0 l0.length := by
    refine ⟨fun _ _ hh => by show G1.ok _ _; simp only [G1, Gh.relocF_ok]; exact hh, fun _ _ _ => SameAt.refl, fun d1 q1 j1 hd1 hn => ⟨Gh.relocF_h _ (fun hh => ?_), fun b hb => Gh.relocF_other hb _ (fun hh => by omega)⟩, fun d1 b _ hb => Gh.relocF_box hb _,
      fun d1 _ => by simp only [G1, Gh.relocF_bl], fun d1 j1 _ _ => by simp only [G1, Gh.relocF_vs], fun _ _ _ _ _ _ _ _ => rfl, fun _ _ _ _ _ => rfl⟩
    obtain ⟨h1, i, hi, hu⟩ := hh
    exact hn ⟨h1, i, Nat.zero_le _, by omega, hu⟩
  have hR := h.turn t hs h.fr (fun b o hb => h.okb b o (by simp only [G1, Gh.relocF_ok] at hb; exact hb)) (fun b o hb hL hh => h.ok0 b o hb hL (by simp only [G1, Gh.relocF_ok] at hh; exact hh)) (fun b p hp => by
      obtain ⟨p', hp'⟩ := Gh.relocF_inv _ hp
      obtain ⟨x1, x2, x3⟩ := h.own b p' hp'
      exact ⟨x1, x2, fun o hh => x3 o (by simp only [G1, Gh.relocF_ok] at hh; exact hh)⟩)
    (fun _ lb _ vs T hh => ⟨vs, hh, rfl, fun _ _ => rfl⟩) (fun s q' hh => by cases hh)
    (fun i _ _ hi => by
      have e2 : cellV w G1 d o.k [] i = vs1.getD i undef := by
        rw [hk]
        simp only [cellV, G1, Gh.relocF_bl]
        rw [blk_cell hb i (by omega)]; rfl
      rw [e2]
      exact hparts i (by omega)) hfz (fun hh => by cases hh)
  have henv : t.env = e.setObj d (filled o l) := by
    simp only [Turn.env, Turn.obj, filled, hk, OK.withCells, setE, hlen]
  rw [henv] at hR
  refine ⟨G1, hR, ⟨fun v A hh => ?_, Env.setObj_len _ _ _, rfl⟩, Gh.relocF_ok _, Gh.relocF_bl _, fun b d1 hb => Gh.relocF_box hb _, fun K2 k2 v2 B2 hK2 hne hh => ?_⟩
  · rw [← henv]
    exact t.rep0 (fun d1 q1 j1 hn hd1 => (hs.lab d1 q1 j1 hd1 hn).1) hs.bl hs.ok hs.same hfz (fun hh => by cases hh) hh
  · exact hh.relocF_other _ (fun q2 j2 _ h2 => hne h2.1) (fun q2 j2 _ h2 => by omega)
end
end Go.Nv
/- BY VALUE, with trees. Part 27: a call, as the one who calls sees it. -/
namespace Go.Nv
variable [Dr]
open Go.RowKit
section
variable {P : Program} {w0 w' : World} {L : Lend} {ok0 : Nat → Nat → Prop} {e : Env} {a : Act} {w : World} {G G' : Gh} {o : Oper} {A : AV}
open Classical in
/-- Some blocks, as they are in another world. -/
noncomputable def graft (w w' : World) (D : Nat → Prop) : World := { w with heap := w.heap.mapIdx fun b x => if D b then (w'.heap[b]?).getD x else x }
omit [Dr] in
theorem graft_size (D : Nat → Prop) : (graft w w' D).heap.size = w.heap.size := by simp [graft]
omit [Dr] in
theorem graft_at {D : Nat → Prop} {b : Nat} (hb : b < w.heap.size) (hb' : b < w'.heap.size) (hD : D b) : (graft w w' D).heap[b]? = w'.heap[b]? := by
  simp only [graft, Array.getElem?_mapIdx, Array.getElem?_eq_getElem hb, Option.map_some, if_pos hD, Array.getElem?_eq_getElem hb', Option.getD_some]
omit [Dr] in
theorem graft_other {D : Nat → Prop} {b : Nat} (hD : ¬ D b) : (graft w w' D).heap[b]? = w.heap[b]? := by
  simp only [graft, Array.getElem?_mapIdx, if_neg hD]
  cases w.heap[b]? <;> rfl
/-- Emptied variables may be turned by whom they were lent to. -/
theorem holes_rep (h : Rel w0 L ok0 e a w G) (D : Nat → Prop) (hsz : w.heap.size ≤ w'.heap.size)
    (hD : ∀ b, D b → ∃ d n, d < e.objs.length ∧ b = G.bl d ∧ e.kind d = .box (List.replicate n .unk) ∧ ∃ cs T, w'.heap[b]? = some (.cells cs T (0, 0)) ∧ cs.size = n) :
    Rel w0 L ok0 e a (graft w w' D) G ∧ Keeps w (graft w w' D) G G e e := by
  have hbox : ∀ b, D b → ∃ d, d < e.objs.length ∧ G.own b = some (d, [], none) := fun b hb => by
    obtain ⟨d, n, h1, h2, h3, _⟩ := hD b hb
    have hO := h.objs d h1
    rw [h3] at hO
    exact ⟨d, h1, by rw [h2]; exact hO.1⟩
  have hlt : ∀ b, D b → b < w.heap.size ∧ (w0.heap.size ≤ b ∨ L b) ∧ ∀ o, ¬ G.ok b o := fun b hb => by
    obtain ⟨d, _, h2⟩ := hbox b hb
    exact h.own b _ h2
  have hsm : ∀ b o, G.ok b o → SameAt w (graft w w' D) b o := fun b1 o1 hb1 => SameAt.of_block (graft_other (fun hh => (hlt b1 hh).2.2 o1 hb1))
  have hc : ∀ {d1 q1 j1 v A}, RepC w G d1 q1 j1 v A → RepC (graft w w' D) G d1 q1 j1 v A := fun hh => hh.mono (fun _ _ hh => hh) hsm (fun q2 j2 _ => ⟨rfl, fun b1 hb1 => ⟨hb1, graft_other (fun hh => by
    obtain ⟨d, _, h2⟩ := hbox b1 hh
    rw [hb1] at h2; cases h2)⟩⟩)
  have hrr : ∀ {v A}, RepR w G.ok v A → RepR (graft w w' D) G.ok v A := fun hh => RepR.mono (fun _ _ hh => hh) hsm hh
  have ht : ∀ v A, RepT0 w G e v A → RepT0 (graft w w' D) G e v A := fun v A hh => by
    cases A
    case ref d1 g1 n1 q1 j1 => exact ⟨hh.1, hh.2.1, fun l hl => hrr (hh.2.2.1 l hl), hh.2.2.2⟩
    case ptr => exact hh
    case mref => exact hh
    all_goals exact hrr hh
  refine ⟨⟨⟨h.fr.os, h.fr.tape, h.fr.output, by rw [graft_size]; exact h.fr.size, fun k hk hL => ?_, h.fr.drawn⟩, h.size, fun t htt => RepT.of0 ht (h.tmps t htt), h.defers, fun b o hb => by rw [graft_size]; exact h.okb b o hb, h.okm, h.ok0, fun b p hp => by rw [graft_size]; exact h.own b p hp,
    fun d1 hd1 => ?_, h.vlen, fun p hp => ht _ _ (h.pins p hp)⟩, ht, rfl, rfl⟩
  · rw [graft_other (fun hh => by rcases (hlt k hh).2.1 with h5 | h5; omega; exact hL h5)]
    exact h.fr.block k hk hL
  · have hO := h.objs d1 hd1
    cases hk : e.kind d1 with
    | dead => trivial
    | box lb =>
      rw [hk] at hO
      obtain ⟨x1, vs, T, x2, x3, x4⟩ := hO
      by_cases hDb : D (G.bl d1)
      · obtain ⟨d, n, h1, h2, h3, cs, T', h4, h5⟩ := hD _ hDb
        have hdd : d = d1 := by
          obtain ⟨d2, _, h6⟩ := hbox _ hDb
          have hO2 := h.objs d h1
          rw [h3] at hO2
          have h7 := hO2.1
          rw [← h2, x1] at h7
          cases h7; rfl
        subst hdd
        rw [hk] at h3
        cases h3
        have hw := (Array.getElem?_eq_some_iff.1 h4).1
        refine ⟨x1, cs, T', by rw [graft_at (hlt _ hDb).1 hw hDb]; exact h4, by rw [h5]; simp, fun i hi => ?_⟩
        have : (List.replicate n AV.unk).getD i .unk = .unk := by by_cases hi : i < n <;> simp [List.getD_eq_getElem?_getD, hi]
        rw [this]; exact .unk _
      · exact ⟨x1, vs, T, by rw [graft_other hDb]; exact x2, x3, fun i hi => hc (x4 i hi)⟩
    | val lv => rw [hk] at hO; exact fun i hi => hc (hO i hi)
    | map lm =>
      rw [hk] at hO
      obtain ⟨x1, es, cl, x2, x3, x4⟩ := hO
      have hnD : ¬ D (G.bl d1) := fun hh => by
        obtain ⟨d, n, h1, h2, h3, _⟩ := hD _ hh
        have hO2 := h.objs d h1
        rw [h3] at hO2
        have h7 := hO2.1
        rw [← h2, x1] at h7
        have hdd : d1 = d := by cases h7; rfl
        subst hdd
        rw [hk] at h3; cases h3
      refine ⟨x1, es, cl, by rw [graft_other hnD]; exact x2, x3, fun i hi => ?_⟩
      obtain ⟨y1, y2, y3, y4⟩ := x4 i hi
      exact ⟨hrr y1, y2, hrr y3, y4⟩
end
end Go.Nv
/- BY VALUE, with trees. Part 28: all lent variables are emptied; all are filled. -/
namespace Go.Nv
variable [Dr]
open Go.RowKit
section
variable {P : Program} {w0 w' : World} {L : Lend} {ok0 : Nat → Nat → Prop} {a : Act} {w : World} {o : Oper} {A : AV}
/-- What is known when all lent variables were emptied. -/
structure Emptied (w : World) (e e2 : Env) (G G2 : Gh) (ds : List Nat) (κ : Nat → Nat) : Prop where
  keeps : Keeps w w G G2 e e2
  ok : G2.ok = G.ok
  bl : G2.bl = G.bl
  own : ∀ b d1, G.own b = some (d1, [], none) → G2.own b = some (d1, [], none)
  other : ∀ d1, d1 ∉ ds → e2.objs[d1]? = e.objs[d1]?
  kind : ∀ d, d ∈ ds → ∃ o l, e.objs[d]? = some o ∧ o.k = .box l ∧ e2.objs[d]? = some (emptied o l) ∧ G.own (G.bl d) = some (d, [], none) ∧ ∃ vs T, w.heap[G.bl d]? = some (.cells vs T (0, 0)) ∧ vs.size = l.length ∧ ∀ i, i < l.length → RepC w G2 (e.objs.length + κ d) [] i (vs.getD i undef) (l.getD i .unk)
  limbo : ∀ K2 k2 v2 B2, e.objs.length ≤ K2 → (∀ d, d ∈ ds → K2 ≠ e.objs.length + κ d) → RepC w G K2 [] k2 v2 B2 → RepC w G2 K2 [] k2 v2 B2
omit [Dr] in
theorem distinct_cons {d : Nat} {ds : List Nat} (h : distinct (d :: ds) = true) : d ∉ ds ∧ distinct ds = true := by
  simp only [distinct, Bool.and_eq_true, Bool.not_eq_true'] at h
  exact ⟨fun hh => by have := h.1; simp [hh] at this, h.2⟩
theorem empties_rep {κ : Nat → Nat} : ∀ {ds : List Nat} {e e2 : Env} {G : Gh}, Rel w0 L ok0 e a w G → distinct ds = true → (∀ d d', d ∈ ds → d' ∈ ds → κ d = κ d' → d = d') → e.empties ds = some e2 → ∃ G2, Rel w0 L ok0 e2 a w G2 ∧ Emptied w e e2 G G2 ds κ
  | [], e, e2, G, h, hd, hκ, he => by
    simp only [Env.empties, Option.some.injEq] at he
    subst he
    exact ⟨G, h, .refl, rfl, rfl, fun _ _ hh => hh, fun _ _ => rfl, fun d hd => by simp at hd, fun _ _ _ _ _ _ hh => hh⟩
  | d :: ds, e, e2, G, h, hdd, hκ, he => by
    obtain ⟨hnd, hdd'⟩ := distinct_cons hdd
    simp only [Env.empties] at he
    cases ho : e.objs[d]? with
    | none => simp [ho] at he
    | some o =>
      simp only [ho] at he
      cases hk : o.k <;> simp only [hk] at he <;> try (cases he; done)
      rename_i l
      have hd : d < e.objs.length := lt_obj ho
      obtain ⟨G1, r1, r2, r3, r4, r5, ⟨vs, T, r6, r7, r8⟩, r9⟩ := empty_rep h (K := e.objs.length + κ d) (Nat.le_add_right _ _) ho hk
      obtain ⟨G2, s1, s2⟩ := empties_rep (κ := κ) r1 hdd' (fun d1 d2 h1 h2 => hκ d1 d2 (List.mem_cons_of_mem _ h1) (List.mem_cons_of_mem _ h2)) he
      have hO := h.objs d hd
      rw [Env.kind_of ho, hk] at hO
      have hlen := Env.setObj_len e d (emptied o l)
      refine ⟨G2, s1, r2.trans s2.keeps, s2.ok.trans r3, s2.bl.trans r4, fun b d1 hb => s2.own b d1 (r5 b d1 hb), fun d1 hn => ?_, fun d1 hd1 => ?_, fun K2 k2 v2 B2 hK2 hn hh => ?_⟩
      · rw [s2.other d1 (fun hh => hn (List.mem_cons_of_mem _ hh)), Env.setObj_at hd, if_neg (fun hh => hn (by rw [hh]; exact List.mem_cons_self))]
      · rcases List.mem_cons.1 hd1 with rfl | hd2
        · refine ⟨o, l, ho, hk, by rw [s2.other d1 hnd, Env.setObj_at hd, if_pos rfl], hO.1, vs, T, r6, r7, fun i hi => s2.limbo _ _ _ _ (by rw [hlen]; exact Nat.le_add_right _ _) (fun d2 hd2 hh => ?_) (r8 i hi)⟩
          rw [hlen] at hh
          have : κ d1 = κ d2 := by omega
          have := hκ d1 d2 List.mem_cons_self (List.mem_cons_of_mem _ hd2) this
          subst this; exact hnd hd2
        · obtain ⟨o2, l2, t1, t2, t3, t4, vs2, T2, t5, t6, t7⟩ := s2.kind d1 hd2
          have hne : d ≠ d1 := fun hh => hnd (by rw [hh]; exact hd2)
          rw [Env.setObj_at hd, if_neg hne] at t1
          have hO1 := h.objs d1 (lt_obj t1)
          rw [Env.kind_of t1, t2] at hO1
          rw [hlen] at t7
          rw [r4] at t5
          exact ⟨o2, l2, t1, t2, t3, hO1.1, vs2, T2, t5, t6, t7⟩
      · exact s2.limbo _ _ _ _ (by rw [hlen]; exact hK2) (fun d2 hd2 => by rw [hlen]; exact hn d2 (List.mem_cons_of_mem _ hd2)) (r9 _ _ _ _ hK2 (hn d List.mem_cons_self) hh)
omit [Dr] in
theorem ptrKeys_cons (A : AV) (l : List AV) : ptrKeys (A :: l) = (match A with | .ptr d _ _ _ _ => [d] | _ => []) ++ ptrKeys l := by
  cases A <;> rfl
theorem fills_rep {κ : Nat → Nat} : ∀ {ls outs : List AV} {e e2 : Env} {G : Gh}, Rel w0 L ok0 e a w G → distinct (ptrKeys ls) = true → (∀ d d', d ∈ ptrKeys ls → d' ∈ ptrKeys ls → κ d = κ d' → d = d') → e.fills ls outs = some e2 →
    (∀ (i d g v : Nat) (q : Path) (j : Nat) (l : List AV), ls[i]? = some (AV.ptr d g v q j) → outs[i]? = some (AV.bx l) → ∃ vs T, w.heap[G.bl d]? = some (.cells vs T (0, 0)) ∧ ∀ x, x < l.length → RepC w G (e.objs.length + κ d) [] x (vs.getD x undef) (l.getD x .unk)) →
    ∃ G2, Rel w0 L ok0 e2 a w G2 ∧ Keeps w w G G2 e e2 ∧ G2.ok = G.ok ∧ G2.bl = G.bl ∧ (∀ K2 k2 v2 B2, e.objs.length ≤ K2 → (∀ d, d ∈ ptrKeys ls → K2 ≠ e.objs.length + κ d) → RepC w G K2 [] k2 v2 B2 → RepC w G2 K2 [] k2 v2 B2)
  | [], outs, e, e2, G, h, hd, hκ, he, hc => by
    cases outs with
    | nil =>
      simp only [Env.fills, Option.some.injEq] at he
      subst he
      exact ⟨G, h, .refl, rfl, rfl, fun _ _ _ _ _ _ hh => hh⟩
    | cons out outs => simp [Env.fills] at he
  | A :: ls, outs, e, e2, G, h, hd, hκ, he, hc => by
    cases outs with
    | nil => simp [Env.fills] at he
    | cons out outs =>
      simp only [Env.fills] at he
      cases h1 : e.fill1 A out with
      | none => simp [h1] at he
      | some e1 =>
        simp only [h1] at he
        by_cases hA : ∃ d g v q j, A = .ptr d g v q j
        · obtain ⟨d, g, v, q, j, rfl⟩ := hA
          simp only [Env.fill1] at h1
          cases out <;> simp only at h1 <;> try (cases h1; done)
          rename_i l
          cases ho : e.objs[d]? with
          | none => simp [ho] at h1
          | some o =>
            simp only [ho] at h1
            cases hk : o.k <;> simp only [hk] at h1 <;> try (cases h1; done)
            rename_i l0
            by_cases hl : l.length = l0.length
            case neg => rw [if_neg hl] at h1; cases h1
            rw [if_pos hl] at h1
            cases h1
            obtain ⟨hnd, hdd⟩ := distinct_cons (show distinct (d :: ptrKeys ls) = true from hd)
            obtain ⟨vs, T, c1, c2⟩ := hc 0 d g v q j l rfl rfl
            obtain ⟨G1, r1, r2, r3, r4, r5, r6⟩ := fill_rep h (K := e.objs.length + κ d) (Nat.le_add_right _ _) ho hk hl c1 c2
            have hlen := Env.setObj_len e d (filled o l)
            have hmem : ∀ d2, d2 ∈ ptrKeys ls → d2 ∈ ptrKeys (.ptr d g v q j :: ls) := fun d2 hh => List.mem_cons_of_mem _ hh
            have hself : d ∈ ptrKeys (.ptr d g v q j :: ls) := List.mem_cons_self
            have key : ∀ (i d2 g2 v2 : Nat) (q2 : Path) (j2 : Nat), ls[i]? = some (AV.ptr d2 g2 v2 q2 j2) → d2 ∈ ptrKeys ls := by
              intro i d2 g2 v2 q2 j2 hi
              clear hc he hdd hnd hκ hd hmem hself
              induction ls generalizing i with
              | nil => simp at hi
              | cons B ls ih =>
                rw [ptrKeys_cons]
                cases i with
                | zero => simp at hi; subst hi; simp
                | succ i => exact List.mem_append_right _ (ih i (by simpa using hi))
            obtain ⟨G2, s1, s2, s3, s4, s5⟩ := fills_rep (κ := κ) r1 hdd (fun d1 d2 h1 h2 => hκ d1 d2 (hmem _ h1) (hmem _ h2)) he (fun i d2 g2 v2 q2 j2 l2 hi1 hi2 => by
              obtain ⟨vs2, T2, x1, x2⟩ := hc (i + 1) d2 g2 v2 q2 j2 l2 (by simpa using hi1) (by simpa using hi2)
              refine ⟨vs2, T2, by rw [r4]; exact x1, fun x hx => ?_⟩
              rw [hlen]
              refine r6 _ _ _ _ (Nat.le_add_right _ _) (fun hh => ?_) (x2 x hx)
              have hm := key i d2 g2 v2 q2 j2 hi1
              have := hκ d2 d (hmem _ hm) hself (by omega)
              subst this; exact hnd hm)
            exact ⟨G2, s1, r2.trans s2, s3.trans r3, s4.trans r4, fun K2 k2 v2 B2 hK2 hn hh => s5 _ _ _ _ (by rw [hlen]; exact hK2) (fun d2 hd2 => by rw [hlen]; exact hn d2 (hmem _ hd2)) (r6 _ _ _ _ hK2 (hn d hself) hh)⟩
        · have e1e : e1 = e := by
            have : e.fill1 A out = some e := by cases A <;> first | rfl | exact absurd ⟨_, _, _, _, _, rfl⟩ hA
            rw [this] at h1; cases h1; rfl
          subst e1e
          have hp : ptrKeys (A :: ls) = ptrKeys ls := by cases A <;> first | rfl | exact absurd ⟨_, _, _, _, _, rfl⟩ hA
          rw [hp] at hd hκ ⊢
          exact fills_rep (κ := κ) h hd hκ he (fun i d2 g2 v2 q2 j2 l2 hi1 hi2 => hc (i + 1) d2 g2 v2 q2 j2 l2 (by simpa using hi1) (by simpa using hi2))
end
end Go.Nv
/- BY VALUE, with trees. Part 29: which arguments are lent, as lists. -/
namespace Go.Nv
variable [Dr]
open Go.RowKit
section
variable {w : World} {G : Gh} {e : Env}
omit [Dr] in
theorem argsV_spec {e : Env} : ∀ {ms : List Md} {As Bs : List AV}, e.argsV ms As = some Bs → ms.length = As.length ∧ Bs.length = As.length ∧ ∀ j, j < As.length → e.argV (ms.getD j .ro) (As.getD j .unk) = some (Bs.getD j .unk)
  | [], [], Bs, h => by simp only [Env.argsV, Option.some.injEq] at h; subst h; exact ⟨rfl, rfl, fun j hj => absurd hj (by simp)⟩
  | [], _ :: _, Bs, h => by simp [Env.argsV] at h
  | _ :: _, [], Bs, h => by simp [Env.argsV] at h
  | m :: ms, A :: As, Bs, h => by
    simp only [Env.argsV] at h
    cases h1 : e.argV m A with
    | none => simp [h1] at h
    | some B =>
      simp only [h1] at h
      cases h2 : e.argsV ms As with
      | none => simp [h2] at h
      | some Bs' =>
        simp only [h2, Option.some.injEq] at h
        subst h
        obtain ⟨i1, i2, i3⟩ := argsV_spec h2
        refine ⟨by simp [i1], by simp [i2], fun j hj => ?_⟩
        cases j with
        | zero => exact h1
        | succ j => exact i3 j (by simpa using hj)
omit [Dr] in
/-- What is lent is told as something that is lent; what is read is not. -/
theorem argV_lent {v : Value} {m : Md} {A B : AV} (hA : RepT w G e v A) (h : e.argV m A = some B) : isLent B = lends m A := by
  unfold Env.argV at h
  by_cases hl : lends m A = true
  · rw [if_pos hl] at h
    rw [hl]
    cases A <;> simp only [Env.lent] at h <;> try (cases h; done)
    · cases m <;> simp only at h <;> cases h; rfl
    · split at h <;> cases h; rfl
    · split at h
      · split at h <;> cases h; rfl
      · cases h
  · rw [if_neg hl] at h
    rw [(view_rep hA h).2]
    cases hh : lends m A with
    | false => rfl
    | true => exact absurd hh hl
omit [Dr] in
theorem lentNs_shift : ∀ (Bs : List AV) (k : Nat), lentNs Bs k = (lentNs Bs 0).map (· + k)
  | [], k => rfl
  | B :: Bs, k => by
    simp only [lentNs]
    rw [lentNs_shift Bs (k + 1), lentNs_shift Bs 1]
    simp only [List.map_append, List.map_map]
    congr 1
    · by_cases h : isLent B = true <;> simp [h]
    · apply List.map_congr_left; intro x _; simp; omega
omit [Dr] in
/-- Those that are lent, by their numbers. -/
theorem lentOf_ns : ∀ {ms : List Md} {As Bs : List AV}, ms.length = As.length → Bs.length = As.length → (∀ j, j < As.length → isLent (Bs.getD j .unk) = lends (ms.getD j .ro) (As.getD j .unk)) → lentOf ms As = (lentNs Bs 0).map fun k => As.getD k .unk
  | [], [], Bs, h1, h2, h => by
    have : Bs = [] := List.eq_nil_of_length_eq_zero (by simpa using h2)
    subst this; rfl
  | [], _ :: _, Bs, h1, h2, h => by simp at h1
  | _ :: _, [], Bs, h1, h2, h => by simp at h1
  | m :: ms, A :: As, [], h1, h2, h => by simp at h2
  | m :: ms, A :: As, B :: Bs, h1, h2, h => by
    have h0 := h 0 (by simp)
    simp only [List.getD_cons_zero] at h0
    simp only [lentOf, lentNs]
    rw [lentNs_shift Bs 1, lentOf_ns (ms := ms) (As := As) (Bs := Bs) (by simpa using h1) (by simpa using h2) (fun j hj => by have := h (j + 1) (by simpa using hj); simpa using this), h0]
    simp only [List.map_append, List.map_map]
    congr 1
    by_cases hl : lends m A = true <;> simp [hl]
omit [Dr] in
theorem lentNs_mem : ∀ {Bs : List AV} {k : Nat}, k ∈ lentNs Bs 0 ↔ k < Bs.length ∧ isLent (Bs.getD k .unk) = true
  | [], k => by simp [lentNs]
  | B :: Bs, k => by
    simp only [lentNs]
    rw [lentNs_shift Bs 1]
    cases k with
    | zero => by_cases h : isLent B = true <;> simp [h]
    | succ k =>
      have := lentNs_mem (Bs := Bs) (k := k)
      by_cases h : isLent B = true <;> simp [h, this]
omit [Dr] in
theorem mem_ptrKeys : ∀ {ls : List AV} {d : Nat}, d ∈ ptrKeys ls ↔ ∃ g v q j, AV.ptr d g v q j ∈ ls
  | [], d => by simp [ptrKeys]
  | A :: ls, d => by
    have ih := mem_ptrKeys (ls := ls) (d := d)
    by_cases hA : ∃ d1 g v q j, A = .ptr d1 g v q j
    · obtain ⟨d1, g, v, q, j, rfl⟩ := hA
      have e0 : ptrKeys (.ptr d1 g v q j :: ls) = d1 :: ptrKeys ls := rfl
      rw [e0, List.mem_cons, ih]
      constructor
      · rintro (rfl | ⟨g, v, q, j, hh⟩)
        · exact ⟨g, v, q, j, List.mem_cons_self⟩
        · exact ⟨g, v, q, j, List.mem_cons_of_mem _ hh⟩
      · rintro ⟨g', v', q', j', hh⟩
        rcases List.mem_cons.1 hh with hh | hh
        · cases hh; exact .inl rfl
        · exact .inr ⟨g', v', q', j', hh⟩
    · have e0 : ptrKeys (A :: ls) = ptrKeys ls := by cases A <;> first | rfl | exact absurd ⟨_, _, _, _, _, rfl⟩ hA
      rw [e0, ih]
      constructor
      · rintro ⟨g, v, q, j, hh⟩; exact ⟨g, v, q, j, List.mem_cons_of_mem _ hh⟩
      · rintro ⟨g, v, q, j, hh⟩
        rcases List.mem_cons.1 hh with hh | hh
        · exact absurd ⟨_, _, _, _, _, hh.symm⟩ hA
        · exact ⟨g, v, q, j, hh⟩
omit [Dr] in
/-- Different keys: different numbers. -/
theorem ptrKeys_inj : ∀ {ls : List AV}, distinct (ptrKeys ls) = true → ∀ {i i' d g g' v v' : Nat} {q q' : Path} {j j' : Nat}, ls[i]? = some (AV.ptr d g v q j) → ls[i']? = some (AV.ptr d g' v' q' j') → i = i'
  | [], _, i, i', d, g, g', v, v', q, q', j, j', h, h' => by simp at h
  | A :: ls, hd, i, i', d, g, g', v, v', q, q', j, j', h, h' => by
    have hd' : distinct (ptrKeys ls) = true := by
      cases A <;> first | exact hd | exact (distinct_cons hd).2
    have hh : ∀ {i g v : Nat} {q : Path} {j : Nat} {g1 v1 : Nat} {q1 : Path} {j1 : Nat}, A = .ptr d g1 v1 q1 j1 → ls[i]? = some (AV.ptr d g v q j) → False := fun {i g v q j g1 v1 q1 j1} hA hi => by
      subst hA
      exact (distinct_cons (show distinct (d :: ptrKeys ls) = true from hd)).1 (mem_ptrKeys.2 ⟨g, v, q, j, List.mem_of_getElem? hi⟩)
    cases i with
    | zero =>
      cases i' with
      | zero => rfl
      | succ i' => exact (hh (by simpa using h) (by simpa using h')).elim
    | succ i =>
      cases i' with
      | zero => exact (hh (by simpa using h') (by simpa using h)).elim
      | succ i' =>
        have h1 : ls[i]? = some (AV.ptr d g v q j) := by simpa using h
        have h2 : ls[i']? = some (AV.ptr d g' v' q' j') := by simpa using h'
        have := ptrKeys_inj hd' h1 h2
        omega
end
end Go.Nv
/- BY VALUE, with trees. Part 30: whose the blocks are, as the function sees it that is called; and behind the call. -/
namespace Go.Nv
variable [Dr]
open Go.RowKit
def boxKey : AV → Option Nat
  | .ptr d _ _ _ _ => some d
  | _ => none
/-- The block of a variable that is lent as the k-th argument. -/
def BoxAt (G : Gh) (As : List AV) (b k : Nat) : Prop := k < As.length ∧ ∃ d, boxKey (As.getD k .unk) = some d ∧ b = G.bl d
open Classical in
noncomputable def Gh.callee (G : Gh) (N : Nat) (As : List AV) (lent : Nat → Bool) (vs : Nat → Value) : Gh where
  ok := G.ok
  own := fun b => if h : ∃ k, BoxAt G As b k then some (h.choose, [], none) else match G.own b with
    | some (d, q, x) => if N ≤ d then some (d - N, q, x) else none
    | none => none
  bl := fun k => match boxKey (As.getD k .unk) with
    | some d => G.bl d
    | none => 0
  vs := fun k _ => vs k
  h := fun k q j => if lent k = true then G.h (N + k) q j else vs k
open Classical in
noncomputable def Gh.back (G G' : Gh) (N : Nat) (As : List AV) (Lc : Nat → Prop) : Gh where
  ok := G'.ok
  own := fun b => match G'.own b with
    | some (k, q, some j) => some (N + k, q, some j)
    | some (k, q, none) => (match boxKey (As.getD k .unk) with
      | some d => some (d, q, none)
      | none => some (N + k, q, none))
    | none => if Lc b then none else G.own b
  bl := fun d => if N ≤ d then G'.bl (d - N) else G.bl d
  vs := fun d j => if N ≤ d then G'.vs (d - N) j else G.vs d j
  h := fun d q j => if N ≤ d then G'.h (d - N) q j else G.h d q j
section
variable {w w' : World} {G G' : Gh} {N : Nat} {As : List AV} {lent : Nat → Bool} {vs : Nat → Value}
omit [Dr] in
theorem boxKey_some {A : AV} {d : Nat} (h : boxKey A = some d) : ∃ g v q j, A = .ptr d g v q j := by
  cases A <;> simp [boxKey] at h
  subst h; exact ⟨_, _, _, _, rfl⟩
/-- The variables that are lent: each its own block. -/
structure Boxes (G : Gh) (N : Nat) (As : List AV) : Prop where
  own : ∀ k d, k < As.length → boxKey (As.getD k .unk) = some d → d < N ∧ G.own (G.bl d) = some (d, [], none)
  inj : ∀ k k' d, k < As.length → k' < As.length → boxKey (As.getD k .unk) = some d → boxKey (As.getD k' .unk) = some d → k = k'
omit [Dr] in
theorem Boxes.at_ (H : Boxes G N As) {b k k' : Nat} (h : BoxAt G As b k) (h' : BoxAt G As b k') : k = k' := by
  obtain ⟨h1, d, h2, h3⟩ := h
  obtain ⟨h1', d', h2', h3'⟩ := h'
  have e1 := (H.own k d h1 h2).2
  have e2 := (H.own k' d' h1' h2').2
  rw [← h3] at e1
  rw [← h3', e1] at e2
  have : d = d' := by cases e2; rfl
  subst this
  exact H.inj k k' d h1 h1' h2 h2'
omit [Dr] in
theorem Boxes.callee_box (H : Boxes G N As) {b k : Nat} (h : BoxAt G As b k) : (G.callee N As lent vs).own b = some (k, [], none) := by
  have hex : ∃ k, BoxAt G As b k := ⟨k, h⟩
  simp only [Gh.callee]
  rw [dif_pos hex, H.at_ hex.choose_spec h]
omit [Dr] in
theorem Boxes.callee_row (H : Boxes G N As) {b k : Nat} {q : Path} {x : Option Nat} (h : G.own b = some (N + k, q, x)) : (G.callee N As lent vs).own b = some (k, q, x) := by
  have hex : ¬ ∃ k, BoxAt G As b k := by
    rintro ⟨k', h1, d, h2, h3⟩
    obtain ⟨h4, h5⟩ := H.own k' d h1 h2
    rw [← h3, h] at h5
    cases h5; omega
  simp only [Gh.callee]
  rw [dif_neg hex, h]
  simp
omit [Dr] in
theorem Boxes.callee_inv (H : Boxes G N As) {b : Nat} {p : Place} (h : (G.callee N As lent vs).own b = some p) : (∃ k, BoxAt G As b k ∧ p = (k, [], none)) ∨ ∃ d q x, N ≤ d ∧ G.own b = some (d, q, x) ∧ p = (d - N, q, x) := by
  simp only [Gh.callee] at h
  by_cases hex : ∃ k, BoxAt G As b k
  · rw [dif_pos hex] at h
    cases h
    exact .inl ⟨_, hex.choose_spec, rfl⟩
  · rw [dif_neg hex] at h
    cases ho : G.own b with
    | none => simp [ho] at h
    | some p' =>
      obtain ⟨d, q, x⟩ := p'
      simp only [ho] at h
      by_cases hd : N ≤ d
      · rw [if_pos hd] at h; cases h
        exact .inr ⟨d, q, x, hd, rfl, rfl⟩
      · rw [if_neg hd] at h; cases h
omit [Dr] in
theorem Boxes.callee_own (H : Boxes G N As) {b : Nat} {p : Place} (h : (G.callee N As lent vs).own b = some p) : ∃ p', G.own b = some p' := by
  rcases H.callee_inv h with ⟨k, ⟨h1, d, h2, h3⟩, _⟩ | ⟨d, q, x, _, h2, _⟩
  · exact ⟨_, by rw [h3]; exact (H.own k d h1 h2).2⟩
  · exact ⟨_, h2⟩
omit [Dr] in
/-- A lent tree, as the function sees it. -/
theorem RepC.callee (H : Boxes G N As) {k : Nat} (hk : lent k = true) {q : Path} {j : Nat} {v : Value} {A : AV} (h : RepC w G (N + k) q j v A) : RepC w (G.callee N As lent vs) k q j v A := by
  have h1 : ∀ q1 j1, (G.callee N As lent vs).h k q1 j1 = G.h (N + k) q1 j1 ∧ ∀ b, G.own b = some (N + k, q1, some j1) → (G.callee N As lent vs).own b = some (k, q1, some j1) := fun q1 j1 =>
    ⟨by simp only [Gh.callee, hk, if_true], fun b hb => H.callee_row hb⟩
  exact RepC.move (G := G) (G' := G.callee N As lent vs) (d := N + k) (d' := k) (q' := q) (j' := j) (fun _ _ hh => hh) h (h1 q j) (fun s c i k2 => h1 _ _)
omit [Dr] in
/-- A tree that the function gives back, as the caller sees it. -/
theorem RepC.back {Lc : Nat → Prop} {k : Nat} {q : Path} {j : Nat} {v : Value} {A : AV} (h : RepC w G' k q j v A) : RepC w (G.back G' N As Lc) (N + k) q j v A := by
  have h1 : ∀ q1 j1, (G.back G' N As Lc).h (N + k) q1 j1 = G'.h k q1 j1 ∧ ∀ b, G'.own b = some (k, q1, some j1) → (G.back G' N As Lc).own b = some (N + k, q1, some j1) := fun q1 j1 => by
    refine ⟨?_, fun b hb => by simp only [Gh.back, hb]⟩
    simp only [Gh.back]
    rw [if_pos (Nat.le_add_right _ _)]
    congr 1; omega
  exact RepC.move (G := G') (G' := G.back G' N As Lc) (d := k) (d' := N + k) (q' := q) (j' := j) (fun _ _ hh => hh) h (h1 q j) (fun s c i k2 => h1 _ _)
end
end Go.Nv
/- BY VALUE, with trees. Part 31: the arguments, as the function sees them. -/
namespace Go.Nv
variable [Dr]
open Go.RowKit
section
variable {w w' : World} {G G' : Gh} {N : Nat} {As : List AV} {lent : Nat → Bool} {vs : Nat → Value}
/-- An argument, as the caller knows it. -/
def ArgK (w : World) (G : Gh) (N : Nat) (As : List AV) (lent : Nat → Bool) (k : Nat) (v : Value) (B : AV) : Prop :=
  (RepR w G.ok v B ∧ isLent B = false) ∨ (∃ E c, B = .row E c [] ∧ v = .slice none 0 0 ∧ lent k = false) ∨ (∃ E c l, B = .row E c l ∧ lent k = true ∧ RepC w G (N + k) [] 0 v (.row E c l)) ∨
  ∃ d l, boxKey (As.getD k .unk) = some d ∧ lent k = true ∧ B = .bx l ∧ v = .pointer (some ⟨G.bl d, 0, none⟩) ∧ ∃ cs T, w.heap[G.bl d]? = some (.cells cs T (0, 0)) ∧ cs.size = l.length ∧ ∀ i, i < l.length → RepC w G (N + k) [] i (cs.getD i undef) (l.getD i .unk)
omit [Dr] in
theorem ArgK.rep (H : Boxes G N As) {k : Nat} (hk : k < As.length) {B : AV} (h : ArgK w G N As lent k (vs k) B) : RepA w (G.callee N As lent vs) k (vs k) B := by
  rcases h with ⟨h1, h2⟩ | ⟨E, c, rfl, h2, h3⟩ | ⟨E, c, l, rfl, h2, h3⟩ | ⟨d, l, h1, h2, rfl, h4, cs, T, h5, h6, h7⟩
  · cases B <;> first | (cases h2; done) | exact h1
  · have : RepC w (G.callee N As lent vs) k [] 0 (.slice none 0 0) (.row E c []) := .row0 (by simp only [Gh.callee, h3]; exact h2)
    rw [h2]; exact this
  · exact RepC.callee H h2 h3
  · have hbl : (G.callee N As lent vs).bl k = G.bl d := by simp only [Gh.callee, h1]
    refine ⟨by rw [hbl]; exact h4, by rw [hbl]; exact H.callee_box ⟨hk, d, h1, rfl⟩, cs, T, by rw [hbl]; exact h5, h6, fun i hi => RepC.callee H h2 (h7 i hi)⟩
omit [Dr] in
/-- The function may be called. -/
theorem callee_fit {L : Lend} {w0 : World} (hokb : ∀ b o, G.ok b o → b < w.heap.size) (hown : ∀ b p, G.own b = some p → b < w.heap.size ∧ (w0.heap.size ≤ b ∨ L b) ∧ ∀ o, ¬ G.ok b o) (H : Boxes G N As) :
    (∀ b o, (G.callee N As lent vs).ok b o → b < w.heap.size) ∧ (∀ b p, (G.callee N As lent vs).own b = some p → b < w.heap.size ∧ ∀ o, ¬ (G.callee N As lent vs).ok b o) ∧
      ∀ b, (∃ p, (G.callee N As lent vs).own b = some p) → b < w.heap.size ∧ (w0.heap.size ≤ b ∨ L b) ∧ ∀ o, ¬ G.ok b o := by
  have h1 : ∀ b p, (G.callee N As lent vs).own b = some p → b < w.heap.size ∧ (w0.heap.size ≤ b ∨ L b) ∧ ∀ o, ¬ G.ok b o := fun b p hp => by
    obtain ⟨p', hp'⟩ := H.callee_own hp
    exact hown b p' hp'
  exact ⟨hokb, fun b p hp => ⟨(h1 b p hp).1, (h1 b p hp).2.2⟩, fun b hb => by obtain ⟨p, hp⟩ := hb; exact h1 b p hp⟩
end
end Go.Nv
/- BY VALUE, with trees. Part 32: behind the call, no row lent. -/
namespace Go.Nv
variable [Dr]
open Go.RowKit
section
variable {w0 w w' : World} {L : Lend} {ok0 : Nat → Nat → Prop} {e : Env} {a : Act} {G G' : Gh} {As : List AV} {lent : Nat → Bool} {vs : Nat → Value}
/-- What the function leaves. -/
structure Left (w w' : World) (Gc G' : Gh) : Prop where
  fr : Frame w ⟨fun b => ∃ p, Gc.own b = some p, []⟩ w'
  okb : ∀ b o, G'.ok b o → b < w'.heap.size
  okm : ∀ b o, Gc.ok b o → G'.ok b o
  ok0 : ∀ b o, b < w.heap.size → (¬ ∃ p, Gc.own b = some p) → G'.ok b o → Gc.ok b o
  own : ∀ b p, G'.own b = some p → b < w'.heap.size ∧ (w.heap.size ≤ b ∨ ∃ p, Gc.own b = some p) ∧ ∀ o, ¬ G'.ok b o
theorem back_stay (h : Rel w0 L ok0 e a w G) (H : Boxes G e.objs.length As) (hl : Left w w' (G.callee e.objs.length As lent vs) G')
    (hbx : ∀ k d, k < As.length → boxKey (As.getD k .unk) = some d → G'.own (G.bl d) = some (k, [], none) ∧ ∃ n, e.kind d = .box (List.replicate n .unk) ∧ ∃ cs T, w'.heap[G.bl d]? = some (.cells cs T (0, 0)) ∧ cs.size = n) :
    Rel w0 L ok0 e a w' (G.back G' e.objs.length As fun b => ∃ p, (G.callee e.objs.length As lent vs).own b = some p) ∧ Keeps w w' G (G.back G' e.objs.length As fun b => ∃ p, (G.callee e.objs.length As lent vs).own b = some p) e e := by
  have hsz : w.heap.size ≤ w'.heap.size := hl.fr.size
  have hLc := (callee_fit (vs := vs) (lent := lent) h.okb h.own H).2.2
  let D : Nat → Prop := fun b => ∃ k, BoxAt G As b k
  have hDown : ∀ b, D b → ∃ k d, k < As.length ∧ boxKey (As.getD k .unk) = some d ∧ b = G.bl d ∧ d < e.objs.length ∧ G.own b = some (d, [], none) := fun b hb => by
    obtain ⟨k, h1, d, h2, h3⟩ := hb
    obtain ⟨h4, h5⟩ := H.own k d h1 h2
    exact ⟨k, d, h1, h2, h3, h4, by rw [h3]; exact h5⟩
  have hDLc : ∀ b, D b → ∃ p, (G.callee e.objs.length As lent vs).own b = some p := fun b hb => by
    obtain ⟨k, hk⟩ := hb
    exact ⟨_, H.callee_box hk⟩
  obtain ⟨hv, kv⟩ := holes_rep (w' := w') h D hsz (fun b hb => by
    obtain ⟨k, d, h1, h2, h3, h4, _⟩ := hDown b hb
    obtain ⟨_, n, h6, cs, T, h7, h8⟩ := hbx k d h1 h2
    exact ⟨d, n, h4, h3, h6, cs, T, by rw [h3]; exact h7, h8⟩)
  have hheap : ∀ b, b < w.heap.size → ¬ (∃ p, (G.callee e.objs.length As lent vs).own b = some p) → w'.heap[b]? = (graft w w' D).heap[b]? := fun b hb hn => by
    rw [graft_other (fun hh => hn (hDLc b hh))]
    exact hl.fr.block b hb hn
  have hnot : ∀ b d1 q1 x, G.own b = some (d1, q1, x) → d1 < e.objs.length → ¬ D b → ¬ ∃ p, (G.callee e.objs.length As lent vs).own b = some p := fun b d1 q1 x hb hd hnD hh => by
    obtain ⟨p, hp⟩ := hh
    rcases H.callee_inv hp with ⟨k, hk, _⟩ | ⟨d, q, x', h1, h2, _⟩
    · exact hnD ⟨k, hk⟩
    · rw [hb] at h2; cases h2; omega
  have hkeep : ∀ b p, G.own b = some p → ¬ (∃ p, (G.callee e.objs.length As lent vs).own b = some p) → (G.back G' e.objs.length As fun b => ∃ p, (G.callee e.objs.length As lent vs).own b = some p).own b = some p := fun b p hp hn => by
    have hn' : G'.own b = none := by
      cases ho : G'.own b with
      | none => rfl
      | some p' =>
        have := (h.own b p hp).1
        rcases (hl.own b p' ho).2.1 with h5 | h5
        · omega
        · exact absurd h5 hn
    simp only [Gh.back, hn']
    rw [if_neg hn]; exact hp
  have hs : StaysO (graft w w' D) w' G (G.back G' e.objs.length As fun b => ∃ p, (G.callee e.objs.length As lent vs).own b = some p) e.objs.length e.objs.length := by
    refine ⟨fun b o hh => hl.okm b o hh, fun b o hh => SameAt.of_block (hheap b (h.okb b o hh) (fun hh2 => (hLc b hh2).2.2 o hh)), fun d1 q1 j1 hd1 _ => ⟨?_, fun b hb => ?_⟩, fun d1 b hd1 _ hb => ?_, fun d1 hd1 _ => ?_, fun d1 j1 hd1 _ => ?_⟩
    · simp only [Gh.back]; rw [if_neg (by omega)]
    · have hnD : ¬ D b := fun hh => by
        obtain ⟨k, d, _, _, _, _, h6⟩ := hDown b hh
        rw [hb] at h6; cases h6
      have hn := hnot b d1 q1 _ hb hd1 hnD
      exact ⟨hkeep b _ hb hn, hheap b (h.own b _ hb).1 hn⟩
    · by_cases hDb : D b
      · obtain ⟨k, d, h1, h2, h3, h4, h5⟩ := hDown b hDb
        obtain ⟨g1, n, g2, cs, T, g3, g4⟩ := hbx k d h1 h2
        rw [hb] at h5
        have hdd : d1 = d := by cases h5; rfl
        subst hdd
        rw [← h3] at g1
        refine ⟨by simp only [Gh.back, g1, h2], ?_⟩
        rw [graft_at (h.own b _ hb).1 (hl.own b _ g1).1 hDb]
      · have hn := hnot b d1 [] none hb hd1 hDb
        exact ⟨hkeep b _ hb hn, hheap b (h.own b _ hb).1 hn⟩
    · simp only [Gh.back]; rw [if_neg (by omega)]
    · simp only [Gh.back]; rw [if_neg (by omega)]
  obtain ⟨r1, r2⟩ := hv.stay (G' := G.back G' e.objs.length As fun b => ∃ p, (G.callee e.objs.length As lent vs).own b = some p) hs (Nat.le_refl _)
    ⟨hl.fr.os.trans h.fr.os, hl.fr.tape.trans h.fr.tape, hl.fr.output.trans h.fr.output, Nat.le_trans h.fr.size hsz, fun k hk hL => by
      rw [← h.fr.block k hk hL]
      exact hl.fr.block k (by have := h.fr.size; omega) (fun hh => by rcases (hLc k hh).2.1 with h5 | h5; omega; exact hL h5), fun dd => Nat.le_trans (h.fr.drawn dd) (hl.fr.drawn dd)⟩
    (fun b o hh => hl.okb b o hh)
    (fun b o hb hL hh => h.ok0 b o hb hL (hl.ok0 b o (by have := h.fr.size; omega) (fun hh2 => by rcases (hLc b hh2).2.1 with h5 | h5; omega; exact hL h5) hh))
    (fun b p hp => by
      cases ho : G'.own b with
      | some p' =>
        obtain ⟨x1, x2, x3⟩ := hl.own b p' ho
        refine ⟨x1, ?_, x3⟩
        rcases x2 with h5 | h5
        · exact .inl (Nat.le_trans h.fr.size h5)
        · exact (hLc b h5).2.1
      | none =>
        simp only [Gh.back, ho] at hp
        by_cases hc : ∃ p, (G.callee e.objs.length As lent vs).own b = some p
        · rw [if_pos hc] at hp; cases hp
        · rw [if_neg hc] at hp
          obtain ⟨x1, x2, x3⟩ := h.own b p hp
          exact ⟨by omega, x2, fun o hh => x3 o (hl.ok0 b o x1 hc hh)⟩)
  exact ⟨r1, kv.trans r2⟩
end
end Go.Nv
/- BY VALUE, with trees. Part 33: what a call gives is laid behind its key. -/
namespace Go.Nv
variable [Dr]
open Go.RowKit
omit [Dr] in
theorem filter_at (f : AV → Bool) : ∀ {l : List AV} {r : Nat}, r < (l.filter f).length → ∃ i, i < l.length ∧ ((l.take i).filter f).length = r ∧ (l.filter f).getD r .unk = l.getD i .unk
  | [], r, h => by simp at h
  | A :: l, r, h => by
    by_cases hA : f A = true
    · rw [List.filter_cons_of_pos hA] at h ⊢
      cases r with
      | zero => exact ⟨0, by simp, by simp, rfl⟩
      | succ r =>
        obtain ⟨i, h1, h2, h3⟩ := filter_at f (l := l) (r := r) (by simpa using h)
        exact ⟨i + 1, by simpa using h1, by rw [List.take_succ_cons, List.filter_cons_of_pos hA]; simp [h2], by simpa using h3⟩
    · rw [List.filter_cons_of_neg hA] at h ⊢
      obtain ⟨i, h1, h2, h3⟩ := filter_at f (l := l) (r := r) h
      exact ⟨i + 1, by simpa using h1, by rw [List.take_succ_cons, List.filter_cons_of_neg hA]; exact h2, by simpa using h3⟩
omit [Dr] in
theorem filter_lt (f : AV → Bool) : ∀ {l : List AV} {i : Nat}, i < l.length → f (l.getD i .unk) = true → ((l.take i).filter f).length < (l.filter f).length ∧ l.getD i .unk ∈ l.filter f
  | [], i, h, _ => by simp at h
  | A :: l, 0, h, hA => by
    have hA' : f A = true := hA
    rw [List.filter_cons_of_pos hA']
    exact ⟨by simp, by simp⟩
  | A :: l, i + 1, h, hA => by
    have ih := filter_lt f (l := l) (i := i) (by simpa using h) (by simpa using hA)
    rw [List.take_succ_cons, List.getD_cons_succ]
    by_cases hB : f A = true
    · rw [List.filter_cons_of_pos hB, List.filter_cons_of_pos hB]
      exact ⟨by simpa using ih.1, List.mem_cons_of_mem _ ih.2⟩
    · rw [List.filter_cons_of_neg hB, List.filter_cons_of_neg hB]; exact ih
omit [Dr] in
theorem rowsOf_cons (A : AV) (l : List AV) : rowsOf (.tup (A :: l)) = rowsOf1 A ++ rowsOf (.tup l) := by simp [rowsOf]
omit [Dr] in
theorem rowsOf_at : ∀ {l : List AV} {i : Nat}, i < l.length → (rowsOf (.tup (l.take i))).length + (rowsOf1 (l.getD i .unk)).length ≤ (rowsOf (.tup l)).length ∧ ∀ B ∈ rowsOf1 (l.getD i .unk), B ∈ rowsOf (.tup l)
  | [], i, h => by simp at h
  | A :: l, 0, h => by
    rw [rowsOf_cons]
    have : rowsOf (.tup (List.take 0 (A :: l))) = [] := rfl
    rw [this]
    exact ⟨by simp, fun B hB => List.mem_append_left _ hB⟩
  | A :: l, i + 1, h => by
    obtain ⟨h1, h2⟩ := rowsOf_at (l := l) (i := i) (by simpa using h)
    rw [List.take_succ_cons, rowsOf_cons, rowsOf_cons, List.getD_cons_succ]
    exact ⟨by simp only [List.length_append]; omega, fun B hB => List.mem_append_right _ (h2 B hB)⟩
section
variable {w0 w w' : World} {L : Lend} {ok0 : Nat → Nat → Prop} {e e' : Env} {a : Act} {G G' : Gh}
/-- The rows at a place, from a cell on. -/
def RowsAt (w : World) (G : Gh) (K j : Nat) (rs : List AV) : Prop := ∀ r, r < rs.length → ∃ v, RepC w G K [] (j + r) v (rs.getD r .unk)
omit [Dr] in
theorem rowsAt_one {K j : Nat} {v : Value} {A : AV} (h : RepS1 w G K j v A) : RowsAt w G K j (rowsOf1 A) := by
  intro r hr
  cases A <;> simp only [rowsOf1, List.length_nil, List.length_cons] at hr <;> try (omega; done)
  · have : r = 0 := by omega
    subst this
    exact ⟨v, h⟩
  · rename_i l
    obtain ⟨i, h1, h2, h3⟩ := filter_at (fun A => !A.pure) hr
    obtain ⟨vs, _, _, h4⟩ := h
    have := h4 i h1
    rw [h2] at this
    exact ⟨_, by simp only [rowsOf1]; rw [h3]; exact this⟩
omit [Dr] in
theorem rowsAt_tup {K : Nat} {vs : Nat → Value} : ∀ {l : List AV} {j s : Nat}, (∀ i, i < l.length → RepS1 w G K (j + (rowsOf (.tup (l.take i))).length) (vs (s + i)) (l.getD i .unk)) → RowsAt w G K j (rowsOf (.tup l))
  | [], j, s, h => fun r hr => absurd hr (by simp [rowsOf])
  | A :: l, j, s, h => by
    intro r hr
    have h0 := rowsAt_one (h 0 (by simp))
    have e0 : (rowsOf (.tup (List.take 0 (A :: l)))).length = 0 := rfl
    rw [e0] at h0
    have ih := rowsAt_tup (K := K) (vs := vs) (l := l) (j := j + (rowsOf1 A).length) (s := s + 1) (fun i hi => by
      have := h (i + 1) (by simpa using hi)
      rw [List.take_succ_cons, rowsOf_cons, List.length_append, List.getD_cons_succ, ← Nat.add_assoc] at this
      rw [show s + 1 + i = s + (i + 1) by omega]
      exact this)
    rw [rowsOf_cons, List.getD_eq_getElem?_getD]
    by_cases hlt : r < (rowsOf1 A).length
    · obtain ⟨v, hv⟩ := h0 r (by simpa using hlt)
      rw [List.getElem?_append_left hlt, ← List.getD_eq_getElem?_getD]
      exact ⟨v, hv⟩
    · obtain ⟨v, hv⟩ := ih (r - (rowsOf1 A).length) (by rw [rowsOf_cons, List.length_append] at hr; omega)
      rw [List.getElem?_append_right (by omega), ← List.getD_eq_getElem?_getD]
      exact ⟨v, by rw [show j + r = j + (rowsOf1 A).length + (r - (rowsOf1 A).length) by omega]; exact hv⟩
omit [Dr] in
theorem RepS.one {K : Nat} {v : Value} {A : AV} (hA : ∀ l, A ≠ .tup l) (h : RepS w G K v A) : RepS1 w G K 0 v A := by
  cases A
  case tup l => exact absurd rfl (hA l)
  all_goals exact h
omit [Dr] in
theorem RepS.ofOne {K : Nat} {v : Value} {A : AV} (hA : ∀ l, A ≠ .tup l) (h : RepS1 w G K 0 v A) : RepS w G K v A := by
  cases A
  case tup l => exact absurd rfl (hA l)
  all_goals exact h
omit [Dr] in
theorem rowsOf_one {A : AV} (hA : ∀ l, A ≠ .tup l) : rowsOf A = rowsOf1 A := by
  cases A
  case tup l => exact absurd rfl (hA l)
  all_goals rfl
omit [Dr] in
theorem rowsAt {K : Nat} {v : Value} {A : AV} (h : RepS w G K v A) : RowsAt w G K 0 (rowsOf A) := by
  cases A
  case tup l =>
    obtain ⟨vs, _, _, h3⟩ := h
    exact rowsAt_tup (vs := fun i => vs.getD i undef) (s := 0) (fun i hi => by simpa using h3 i hi)
  all_goals exact rowsAt_one (RepS.one (by intro l hl; cases hl) h)
omit [Dr] in
theorem all_row {rs : List AV} (h : rs.all AV.isRow = true) {A : AV} (hA : A ∈ rs) : ∃ E c l, A = .row E c l := by
  have := List.all_eq_true.1 h A hA
  cases A <;> simp [AV.isRow] at this
  exact ⟨_, _, _, rfl⟩
omit [Dr] in
theorem RepS1.map {K K' j : Nat} {v : Value} {A : AV} (hok : ∀ b o, G.ok b o → G'.ok b o) (hsame : ∀ b o, G.ok b o → SameAt w w' b o) (hrow : ∀ i v E c l, j ≤ i → i < j + (rowsOf1 A).length → RepC w G K [] i v (.row E c l) → RepC w' G' K' [] i v (.row E c l))
    (hrows : ∀ B ∈ rowsOf1 A, ∃ E c l, B = .row E c l) (hbx : ∀ l, A ≠ .bx l) (h : RepS1 w G K j v A) : RepS1 w' G' K' j v A := by
  cases A
  case row E c l => exact hrow j v E c l (Nat.le_refl _) (by simp [rowsOf1]) h
  case bx l => exact absurd rfl (hbx l)
  case agg l =>
    obtain ⟨vs, h1, h2, h3⟩ := h
    refine ⟨vs, h1, h2, fun i hi => ?_⟩
    have h4 := h3 i hi
    by_cases hp : (l.getD i .unk).pure = true
    · exact .pure hp ((h4.pureInv hp).mono hok hsame)
    · obtain ⟨f1, f2⟩ := filter_lt (fun A => !A.pure) hi (by simpa using hp)
      obtain ⟨E, c, l', hl'⟩ := hrows _ f2
      rw [hl'] at h4 ⊢
      exact hrow _ _ E c l' (Nat.le_add_right _ _) (by simp only [rowsOf1]; omega) h4
  all_goals exact RepR.mono hok hsame h
omit [Dr] in
theorem RepS.map {K K' : Nat} {v : Value} {A : AV} (hok : ∀ b o, G.ok b o → G'.ok b o) (hsame : ∀ b o, G.ok b o → SameAt w w' b o) (hrow : ∀ i v E c l, i < (rowsOf A).length → RepC w G K [] i v (.row E c l) → RepC w' G' K' [] i v (.row E c l))
    (hrows : ∀ B ∈ rowsOf A, ∃ E c l, B = .row E c l) (hbx : bxOf A = none) (h : RepS w G K v A) : RepS w' G' K' v A := by
  cases A
  case tup l =>
    obtain ⟨vs, h1, h2, h3⟩ := h
    refine ⟨vs, h1, h2, fun i hi => ?_⟩
    obtain ⟨r1, r2⟩ := rowsOf_at hi
    refine RepS1.map hok hsame (fun i' v' E c l' g1 g2 => hrow i' v' E c l' (by omega)) (fun B hB => hrows B (r2 B hB)) (fun l' hl' => ?_) (h3 i hi)
    have hm : l.getD i .unk ∈ l := by rw [List.getD_eq_getElem?_getD, List.getElem?_eq_getElem hi]; exact List.getElem_mem hi
    rw [hl'] at hm
    simp only [bxOf] at hbx
    have := List.findSome?_eq_none_iff.1 hbx _ hm
    cases this
  case bx l => cases hbx
  all_goals exact RepS.ofOne (by intro l hl; cases hl) (RepS1.map hok hsame (fun i' v' E c l' g1 g2 => hrow i' v' E c l' (by rw [rowsOf_one (by intro l hl; cases hl)]; omega)) (fun B hB => hrows B (by rw [rowsOf_one (by intro l hl; cases hl)]; exact hB)) (fun l' hl' => by cases hl') (RepS.one (by intro l hl; cases hl) h))
/-! ### Names -/
omit [Dr] in
theorem nameCells_len (d g : Nat) : ∀ (l : List AV) (k : Nat), (nameCells d g l k).length = l.length
  | [], _ => rfl
  | A :: l, k => by
    simp only [nameCells]
    split <;> simp [nameCells_len d g l]
omit [Dr] in
theorem nameCells_get (d g : Nat) : ∀ (l : List AV) (k i : Nat), i < l.length → (nameCells d g l k).getD i .unk = if (l.getD i .unk).pure = true then l.getD i .unk else .ref d g 0 [] (k + ((l.take i).filter fun A => !A.pure).length)
  | [], _, _, h => by simp at h
  | A :: l, k, 0, h => by
    simp only [nameCells, List.getD_cons_zero]
    split <;> simp
  | A :: l, k, i + 1, h => by
    have ih := fun k => nameCells_get d g l k i (by simpa using h)
    simp only [nameCells, List.getD_cons_succ, List.take_succ_cons]
    by_cases hA : A.pure = true
    · rw [if_pos hA, List.getD_cons_succ, ih, List.filter_cons_of_neg (by simpa using hA)]
    · rw [if_neg hA, List.getD_cons_succ, ih, List.filter_cons_of_pos (by simpa using hA)]
      simp only [List.length_cons]
      rw [show k + 1 + ((l.take i).filter fun A => !A.pure).length = k + (((l.take i).filter fun A => !A.pure).length + 1) by omega]
omit [Dr] in
theorem nameTup_len (d g : Nat) : ∀ (l : List AV) (k : Nat), (nameTup d g l k).length = l.length
  | [], _ => rfl
  | A :: l, k => by simp [nameTup, nameTup_len d g l]
omit [Dr] in
theorem nameTup_get (d g : Nat) : ∀ (l : List AV) (k i : Nat), i < l.length → (nameTup d g l k).getD i .unk = name1 d g (k + (rowsOf (.tup (l.take i))).length) (l.getD i .unk)
  | [], _, _, h => by simp at h
  | A :: l, k, 0, h => by simp [nameTup, rowsOf]
  | A :: l, k, i + 1, h => by
    simp only [nameTup, List.getD_cons_succ, List.take_succ_cons]
    rw [nameTup_get d g l _ i (by simpa using h), rowsOf_cons, List.length_append, Nat.add_assoc]
omit [Dr] in
/-- A row behind a key, by its name. -/
theorem ref_rep {d g n j : Nat} {rs : List AV} (hat : e.objs[d]? = some ⟨g, List.replicate n [], .val rs⟩) (hrs : rs.all AV.isRow = true) {v : Value} {E c : Nat} {l : List (List AV)} (h : RepC w G d [] j v (.row E c l)) : RepT0 w G e v (.ref d g 0 [] j) := by
  refine ⟨⟨lt_obj hat, by rw [Env.gen_of hat]; exact Nat.le_refl _, fun o _ => Nat.zero_le _⟩, fun E' c' l' _ => h.rowInv.1, fun l' hc => ?_, h.rowSlice⟩
  obtain ⟨o, l0, h1, _, _, h4, h5⟩ := Env.cellR_some.1 hc
  rw [hat] at h1; cases h1
  simp only [OK.cells, Option.some.injEq] at h4
  subst h4
  simp only [cellAt, elemsAt] at h5
  obtain ⟨E', c', l'', hh⟩ := all_row hrs (List.mem_of_getElem? h5)
  cases hh
omit [Dr] in
theorem RepS1.flat {K j : Nat} {v : Value} {A : AV} (h : RepS1 w G K j v A) (hr : rowsOf1 A = []) (hbx : ∀ l, A ≠ .bx l) : RepT1 w G e v A := by
  cases A
  case row E c l => simp [rowsOf1] at hr
  case bx l => exact absurd rfl (hbx l)
  case agg l =>
    obtain ⟨vs, h1, h2, h3⟩ := h
    refine ⟨vs, h1, h2, fun i hi => ?_⟩
    have hp : (l.getD i .unk).pure = true := by
      by_cases hp : (l.getD i .unk).pure = true
      · exact hp
      · obtain ⟨_, f2⟩ := filter_lt (fun A => !A.pure) hi (by simpa using hp)
        simp only [rowsOf1] at hr
        rw [hr] at f2; cases f2
    exact ((h3 i hi).pureInv hp).toT0
  all_goals exact (RepR.toT0 (G := G) (e := e) (show RepR w G.ok v _ from h))
omit [Dr] in
theorem name1_rep {d g n j : Nat} {rs : List AV} (hat : e.objs[d]? = some ⟨g, List.replicate n [], .val rs⟩) (hrs : rs.all AV.isRow = true) {v : Value} {A : AV} (hA : ∀ B ∈ rowsOf1 A, ∃ E c l, B = .row E c l) (hbx : ∀ l, A ≠ .bx l) (h : RepS1 w G d j v A) :
    RepT1 w G e v (name1 d g j A) := by
  cases A
  case row E c l => exact ref_rep hat hrs h
  case agg l =>
    obtain ⟨vs, h1, h2, h3⟩ := h
    refine ⟨vs, h1, by rw [nameCells_len]; exact h2, fun i hi => ?_⟩
    rw [nameCells_len] at hi
    rw [nameCells_get d g l j i hi]
    have h4 := h3 i hi
    by_cases hp : (l.getD i .unk).pure = true
    · rw [if_pos hp]; exact (h4.pureInv hp).toT0
    · rw [if_neg hp]
      obtain ⟨_, f2⟩ := filter_lt (fun A => !A.pure) hi (by simpa using hp)
      obtain ⟨E, c, l', hl'⟩ := hA _ f2
      rw [hl'] at h4
      exact ref_rep hat hrs h4
  case bx l => exact absurd rfl (hbx l)
  all_goals exact RepS1.flat h rfl (fun l hl => by cases hl)
omit [Dr] in
theorem bxOf_none {A : AV} (h : bxOf A = none) : (∀ l, A ≠ .bx l) ∧ ∀ l, A = .tup l → ∀ i, i < l.length → ∀ m, l.getD i .unk ≠ .bx m := by
  refine ⟨fun l hl => (by subst hl; cases h), fun l hl i hi m hm => ?_⟩
  subst hl
  have hm' : l.getD i .unk ∈ l := by rw [List.getD_eq_getElem?_getD, List.getElem?_eq_getElem hi]; exact List.getElem_mem hi
  rw [hm] at hm'
  have := List.findSome?_eq_none_iff.1 h _ hm'
  cases this
omit [Dr] in
theorem nameR_rep {d g n : Nat} {rs : List AV} (hat : e.objs[d]? = some ⟨g, List.replicate n [], .val rs⟩) (hrs : rs.all AV.isRow = true) {v : Value} {A : AV} (hA : ∀ B ∈ rowsOf A, ∃ E c l, B = .row E c l) (hbx : bxOf A = none) (h : RepS w G d v A) :
    RepT w G e v (nameR d g A) := by
  obtain ⟨b1, b2⟩ := bxOf_none hbx
  cases A
  case tup l =>
    obtain ⟨vs, h1, h2, h3⟩ := h
    refine ⟨vs, h1, by rw [nameTup_len]; exact h2, fun i hi => ?_⟩
    rw [nameTup_len] at hi
    rw [nameTup_get d g l 0 i hi, Nat.zero_add]
    exact name1_rep hat hrs (fun B hB => hA B ((rowsOf_at hi).2 B hB)) (b2 l rfl i hi) (h3 i hi)
  case row => exact RepT1.toT (name1_rep (j := 0) hat hrs (fun B hB => hA B (by rw [rowsOf_one (by intro l hl; cases hl)]; exact hB)) b1 (RepS.one (by intro l hl; cases hl) h))
  case agg => exact RepT1.toT (name1_rep (j := 0) hat hrs (fun B hB => hA B (by rw [rowsOf_one (by intro l hl; cases hl)]; exact hB)) b1 (RepS.one (by intro l hl; cases hl) h))
  case bx l => exact absurd rfl (b1 l)
  all_goals exact RepT1.toT (RepS1.flat (j := 0) (K := d) (RepS.one (by intro l hl; cases hl) h) rfl b1)
omit [Dr] in
theorem RepS.flat {K : Nat} {v : Value} {A : AV} (h : RepS w G K v A) (hr : rowsOf A = []) (hbx : bxOf A = none) : RepT w G e v A := by
  obtain ⟨b1, b2⟩ := bxOf_none hbx
  cases A
  case tup l =>
    obtain ⟨vs, h1, h2, h3⟩ := h
    refine ⟨vs, h1, h2, fun i hi => ?_⟩
    refine RepS1.flat (h3 i hi) ?_ (b2 l rfl i hi)
    have := (rowsOf_at hi).1
    rw [hr] at this
    exact List.eq_nil_of_length_eq_zero (by simp only [List.length_nil] at this; omega)
  all_goals exact RepT1.toT (RepS1.flat (j := 0) (RepS.one (by intro l hl; cases hl) h) (by rw [← rowsOf_one (by intro l hl; cases hl)]; exact hr) b1)
/-! ### Laid behind a key -/
def Gh.valsAt (G : Gh) (d : Nat) (f : Nat → Value) : Gh := { G with vs := fun d1 j1 => if d1 = d then f j1 else G.vs d1 j1 }
omit [Dr] in
theorem RepC.valsAt {d : Nat} {f : Nat → Value} {d1 : Nat} {q : Path} {j : Nat} {v : Value} {A : AV} (h : RepC w G d1 q j v A) : RepC w (G.valsAt d f) d1 q j v A :=
  h.mono (G := G) (G' := G.valsAt d f) (fun _ _ hh => hh) (fun _ _ _ => SameAt.refl) (fun _ _ _ => ⟨rfl, fun _ hb => ⟨hb, rfl⟩⟩)
theorem rows_rep (h : Rel w0 L ok0 e a w G) {K d : Nat} (hd : d < e.objs.length) (hK : e.objs.length ≤ K) {rs : List AV} (hr : RowsAt w G K 0 rs) (hall : rs.all AV.isRow = true) :
    ∃ G2, Rel w0 L ok0 (e.setObj d ⟨e.gen d + 1, List.replicate rs.length [], .val rs⟩) a w G2 ∧ (∀ b o, G.ok b o → G2.ok b o) ∧ ∀ i v E c l, i < rs.length → RepC w G K [] i v (.row E c l) → RepC w G2 d [] i v (.row E c l) := by
  let G1 := G.relocs K d [] 0 rs.length
  let G2 := G1.valsAt d (fun j => G.h K [] j)
  have hdK : d ≠ K := by omega
  have hP : RepP w G K [] 0 (fun i => G.h K [] i) rs := fun i hi => by
    obtain ⟨v, hv⟩ := hr i hi
    have hm : rs.getD i .unk ∈ rs := by rw [List.getD_eq_getElem?_getD, List.getElem?_eq_getElem hi]; exact List.getElem_mem hi
    obtain ⟨E, c, l, hl⟩ := all_row hall hm
    rw [hl] at hv ⊢
    have := hv.rowInv.1
    rw [Nat.zero_add] at this hv ⊢
    show RepC w G K [] i (G.h K [] i) _
    rw [← this]; exact hv
  have hparts := (RepP.relocs (w := w) (G := G) (q := []) (j := 0) hdK hP rs.length (Nat.le_refl _)).1
  have hstay : StaysO w w G G2 e.objs.length d := by
    refine ⟨fun b o hh => by show G1.ok b o; simp only [G1, Gh.relocs_ok]; exact hh, fun _ _ _ => SameAt.refl, fun d1 q1 j1 hd1 hn => ⟨?_, fun b1 hb1 => ⟨Gh.relocs_other hb1 (by omega) _, rfl⟩⟩, fun d1 b1 hd1 hn hb1 => ⟨Gh.relocs_box hb1 _, rfl⟩, fun d1 _ hn => ?_, fun d1 j1 _ hn => ?_⟩
    · show G1.h d1 q1 j1 = _
      exact Gh.relocs_h _ (fun hh => hn hh.1)
    · show (G.relocs K d [] 0 rs.length).bl d1 = _
      rw [Gh.relocs_bl]
    · simp only [G2, Gh.valsAt, if_neg hn]
      show (G.relocs K d [] 0 rs.length).vs d1 j1 = _
      rw [Gh.relocs_vs]
  have hcells : ∀ i, i < rs.length → RepC w G2 d [] i (G.h K [] i) (rs.getD i .unk) := fun i hi => by
    have := hparts i hi
    rw [Nat.zero_add] at this
    exact this.valsAt
  obtain ⟨r1, _⟩ := h.make hd (n := rs.length) (k' := .val rs) hstay h.fr (fun b1 o hh => h.okb b1 o (by simp only [G2, Gh.valsAt, G1, Gh.relocs_ok] at hh; exact hh)) (fun b1 o hb hL hh => h.ok0 b1 o hb hL (by simp only [G2, Gh.valsAt, G1, Gh.relocs_ok] at hh; exact hh))
    (fun b1 p hp => by
      obtain ⟨p', hp'⟩ := Gh.relocs_inv _ (show (G.relocs K d [] 0 rs.length).own b1 = some p from hp)
      obtain ⟨x1, x2, x3⟩ := h.own b1 p' hp'
      exact ⟨x1, x2, fun o hh => x3 o (by simp only [G2, Gh.valsAt, G1, Gh.relocs_ok] at hh; exact hh)⟩)
    (fun j hj => by
      have : G2.vs d j = G.h K [] j := by simp only [G2, Gh.valsAt, if_true]
      rw [this]; exact hcells j hj) (fun l0 hl0 => by simp only [OK.cells, Option.some.injEq] at hl0; subst hl0; rfl)
  refine ⟨G2, r1, hstay.ok, fun i v E c l hi hv => ?_⟩
  have h1 := hcells i hi
  have hm : rs.getD i .unk ∈ rs := by rw [List.getD_eq_getElem?_getD, List.getElem?_eq_getElem hi]; exact List.getElem_mem hi
  -- the row at the cell, moved
  have h2 : RepC w G1 d [] i v (.row E c l) := by
    have hP' : RepP w G K [] 0 (fun i' => if i' = i then v else G.h K [] i') (rs.set i (.row E c l)) := fun i' hi' => by
      rw [Nat.zero_add]
      by_cases he : i' = i
      · subst he
        rw [getD_set_eq _ _ _ _ (by simpa using hi)]; simp only [if_true]; exact hv
      · rw [getD_set_ne _ _ _ _ _ (fun hh => he hh.symm)]
        simp only [if_neg he]
        have := hP i' (by simpa using hi')
        rw [Nat.zero_add] at this; exact this
    have := (RepP.relocs (w := w) (G := G) (q := []) (j := 0) hdK hP' rs.length (by simp)).1 i hi
    rw [Nat.zero_add, getD_set_eq _ _ _ _ hi] at this
    simp only [if_true] at this
    exact this
  exact h2.valsAt
omit [Dr] in
theorem bxOf_some {A : AV} {l : List AV} (h : bxOf A = some l) : A = .bx l ∨ ∃ m i, A = .tup m ∧ i < m.length ∧ m.getD i .unk = .bx l := by
  cases A <;> simp only [bxOf] at h <;> try (cases h; done)
  · cases h; exact .inl rfl
  · rename_i m
    obtain ⟨B, h1, h2⟩ := List.exists_of_findSome?_eq_some h
    obtain ⟨i, hi, hB⟩ := List.getElem_of_mem h1
    refine .inr ⟨m, i, rfl, hi, ?_⟩
    rw [List.getD_eq_getElem?_getD, List.getElem?_eq_getElem hi]
    simp only [Option.getD_some, hB]
    cases B <;> simp only at h2 <;> try (cases h2; done)
    cases h2; rfl
theorem box_rep (h : Rel w0 L ok0 e a w G) {K d : Nat} (hd : d < e.objs.length) (hK : e.objs.length ≤ K) {l : List AV} (hO : RepO w G K (.box l)) :
    ∃ G2, Rel w0 L ok0 (e.setObj d ⟨e.gen d + 1, List.replicate l.length [], .box l⟩) a w G2 ∧ (∀ b o, G.ok b o → G2.ok b o) ∧ G2.bl d = G.bl K := by
  obtain ⟨o1, vs, T, o2, o3, o4⟩ := hO
  let b := G.bl K
  let G1 := G.relocs K d [] 0 l.length
  let G2 := G1.boxAt d b
  have hdK : d ≠ K := by omega
  have hokE : ∀ b o, G2.ok b o ↔ G.ok b o := fun b o => by show G1.ok b o ↔ _; show (G.relocs K d [] 0 l.length).ok b o ↔ _; rw [Gh.relocs_ok]
  have hP : RepP w G K [] 0 (fun i => vs.getD i undef) l := fun i hi => by rw [Nat.zero_add]; exact o4 i hi
  have hparts := (RepP.relocs (w := w) (G := G) (q := []) (j := 0) hdK hP l.length (Nat.le_refl _)).1
  have hne : ∀ b1 d1 q1 x, G1.own b1 = some (d1, q1, x) → (d1, q1, x) ≠ (K, [], none) → G2.own b1 = some (d1, q1, x) := fun b1 d1 q1 x hp hx => by
    have : b1 ≠ b := fun hh => by
      have := Gh.relocs_box (K := K) (d := d) (q := []) (j := 0) o1 l.length
      rw [hh] at hp
      have h2 : G1.own b = some (K, [], none) := this
      rw [h2] at hp; cases hp; exact hx rfl
    simp only [G2, Gh.boxAt, if_neg this]; exact hp
  have hstay : StaysO w w G G2 e.objs.length d := by
    refine ⟨fun b o hh => (hokE b o).2 hh, fun _ _ _ => SameAt.refl, fun d1 q1 j1 hd1 hn => ⟨?_, fun b1 hb1 => ⟨hne b1 _ _ _ (Gh.relocs_other hb1 (by omega) _) (by simp), rfl⟩⟩, fun d1 b1 hd1 hn hb1 => ⟨hne b1 _ _ _ (Gh.relocs_box hb1 _) (fun hh => by cases hh; omega), rfl⟩, fun d1 _ hn => ?_, fun d1 j1 _ hn => ?_⟩
    · show G1.h d1 q1 j1 = _
      exact Gh.relocs_h _ (fun hh => hn hh.1)
    · simp only [G2, Gh.boxAt, if_neg hn]
      show (G.relocs K d [] 0 l.length).bl d1 = _
      rw [Gh.relocs_bl]
    · show (G.relocs K d [] 0 l.length).vs d1 j1 = _
      rw [Gh.relocs_vs]
  have hcells : ∀ i, i < l.length → RepC w G2 d [] i (vs.getD i undef) (l.getD i .unk) := fun i hi => by
    have := hparts i hi
    rw [Nat.zero_add] at this
    exact this.mono (G := G1) (G' := G2) (fun b o hh => hh) (fun _ _ _ => SameAt.refl) (fun q1 j1 _ => ⟨rfl, fun b1 hb1 => ⟨hne b1 _ _ _ hb1 (by simp), rfl⟩⟩)
  have hbl : G2.bl d = b := by simp only [G2, Gh.boxAt, if_true]
  obtain ⟨r1, _⟩ := h.make hd (n := l.length) (k' := .box l) hstay h.fr (fun b1 o hh => h.okb b1 o ((hokE b1 o).1 hh)) (fun b1 o hb hL hh => h.ok0 b1 o hb hL ((hokE b1 o).1 hh))
    (fun b1 p hp => by
      by_cases hb1 : b1 = b
      · subst hb1
        obtain ⟨x1, x2, x3⟩ := h.own _ _ o1
        exact ⟨x1, x2, fun o hh => x3 o ((hokE _ o).1 hh)⟩
      · simp only [G2, Gh.boxAt, if_neg hb1] at hp
        obtain ⟨p', hp'⟩ := Gh.relocs_inv _ hp
        obtain ⟨x1, x2, x3⟩ := h.own b1 p' hp'
        exact ⟨x1, x2, fun o hh => x3 o ((hokE b1 o).1 hh)⟩)
    ⟨by rw [hbl]; simp only [G2, Gh.boxAt, if_true], vs, T, by rw [hbl]; exact o2, o3, hcells⟩ (fun l0 hl0 => by simp only [OK.cells, Option.some.injEq] at hl0; subst hl0; rfl)
  exact ⟨G2, r1, hstay.ok, hbl⟩
theorem install_rep (h : Rel w0 L ok0 e a w G) {K : Nat} (hK : e.objs.length ≤ K) {dst : Option Nat} {v : Value} {A : AV} (hA : RepS w G K v A) (he : e.install dst A = some e') : ∃ G2, Rel w0 L ok0 e' (a.put dst v) w G2 := by
  cases dst with
  | none =>
    simp only [Env.install, Option.some.injEq] at he
    subst he
    exact ⟨G, h⟩
  | some d =>
    simp only [Env.install] at he
    cases hb : bxOf A with
    | some l =>
      simp only [hb] at he
      by_cases hr : rowsOf A = []
      case neg => rw [if_neg hr] at he; cases he
      rw [if_pos hr] at he
      by_cases hd : d < e.objs.length
      case neg => rw [show e.make d l.length (.box l) = none by unfold Env.make; rw [if_neg hd]] at he; cases he
      rw [make_some hd] at he
      simp only [Option.some.injEq] at he
      subst he
      have hO : RepO w G K (.box l) := by
        rcases bxOf_some hb with rfl | ⟨m, i, rfl, hi, hm⟩
        · exact hA.2
        · obtain ⟨vs, _, _, h3⟩ := hA
          have := h3 i hi
          rw [hm] at this
          exact this.2
      obtain ⟨G2, r1, r2, r3⟩ := box_rep h hd hK hO
      have hat := Env.setObj_at (e := e) (o := ⟨e.gen d + 1, List.replicate l.length [], .box l⟩) hd d
      rw [if_pos rfl] at hat
      have hp : RepT0 w G2 (e.setObj d ⟨e.gen d + 1, List.replicate l.length [], .box l⟩) (.pointer (some ⟨G.bl K, 0, none⟩)) (.ptr d (e.gen d + 1) 0 [] 0) :=
        ⟨⟨lt_obj hat, by rw [Env.gen_of hat]; exact Nat.le_refl _⟩, _, _, rfl, fun l _ => ⟨r3.symm, rfl⟩⟩
      refine ⟨G2, r1.put (some d) ?_⟩
      cases A
      case bx m =>
        have := hA.1
        rw [this]; exact hp
      case tup m =>
        obtain ⟨vs, h1, h2, h3⟩ := hA
        refine ⟨vs, h1, by simp [h2], fun i hi => ?_⟩
        have hi' : i < m.length := by simpa using hi
        have h4 := h3 i hi'
        have e1 : (m.map (nameB1 d (e.gen d + 1))).getD i .unk = nameB1 d (e.gen d + 1) (m.getD i .unk) := by
          simp only [List.getD_eq_getElem?_getD, List.getElem?_map, List.getElem?_eq_getElem hi', Option.map_some, Option.getD_some]
        rw [e1]
        have hr1 : rowsOf1 (m.getD i .unk) = [] := by
          have := (rowsOf_at hi').1
          rw [hr] at this
          exact List.eq_nil_of_length_eq_zero (by simp only [List.length_nil] at this; omega)
        by_cases hbx : ∃ l', m.getD i .unk = .bx l'
        · obtain ⟨l', hl'⟩ := hbx
          rw [hl'] at h4 ⊢
          rw [h4.1]; exact hp
        · have h5 : RepS1 w G2 d (rowsOf (.tup (m.take i))).length (vs.getD i undef) (m.getD i .unk) := RepS1.map r2 (fun _ _ _ => SameAt.refl) (fun i' v' E c l' g1 g2 => by rw [hr1] at g2; simp at g2; omega) (fun B hB => by rw [hr1] at hB; cases hB) (fun l' hl' => hbx ⟨l', hl'⟩) h4
          have h6 := RepS1.flat (e := e.setObj d ⟨e.gen d + 1, List.replicate l.length [], .box l⟩) h5 hr1 (fun l' hl' => hbx ⟨l', hl'⟩)
          revert h6 hbx
          generalize m.getD i .unk = B
          intro hbx h6
          cases B <;> first | exact h6 | exact absurd ⟨_, rfl⟩ hbx
      all_goals cases hb
    | none =>
      simp only [hb] at he
      by_cases hr : rowsOf A = []
      · rw [if_pos hr] at he
        cases he
        exact ⟨G, h.put (some d) (RepS.flat hA hr hb)⟩
      · rw [if_neg hr] at he
        by_cases hall : (rowsOf A).all AV.isRow = true
        case neg => rw [if_neg hall] at he; cases he
        rw [if_pos hall] at he
        by_cases hd : d < e.objs.length
        case neg => rw [show e.make d (rowsOf A).length (.val (rowsOf A)) = none by unfold Env.make; rw [if_neg hd]] at he; cases he
        rw [make_some hd] at he
        simp only [Option.some.injEq] at he
        subst he
        obtain ⟨G2, r1, r2, r3⟩ := rows_rep h hd hK (rowsAt hA) hall
        have hat := Env.setObj_at (e := e) (o := ⟨e.gen d + 1, List.replicate (rowsOf A).length [], .val (rowsOf A)⟩) hd d
        rw [if_pos rfl] at hat
        have hA2 : RepS w G2 d v A := hA.map r2 (fun _ _ _ => SameAt.refl) (fun i v' E c l hi hh => r3 i v' E c l hi hh) (fun B hB => all_row hall hB) hb
        exact ⟨G2, r1.put (some d) (nameR_rep hat hall (fun B hB => all_row hall hB) hb hA2)⟩
end
end Go.Nv
/- BY VALUE, with trees. Part 34: behind the call, with a row lent. -/
namespace Go.Nv
variable [Dr]
open Go.RowKit
section
variable {w0 w w' : World} {L : Lend} {ok0 : Nat → Nat → Prop} {e : Env} {a : Act} {G G' : Gh} {As : List AV} {lent : Nat → Bool} {vs : Nat → Value}
/-- What is known behind a call of the places that are the function's. -/
structure Aft (w' : World) (N : Nat) (As : List AV) (G G' G4 : Gh) (out : Nat → Prop) : Prop where
  ok : G4.ok = G'.ok
  bl : ∀ d1, d1 < N → G4.bl d1 = G.bl d1
  blK : ∀ k, G4.bl (N + k) = G'.bl k
  rep : ∀ k q1 j1 v A, ¬ out k → RepC w' G' k q1 j1 v A → RepC w' G4 (N + k) q1 j1 v A
  own : ∀ b k, G'.own b = some (k, [], none) → boxKey (As.getD k .unk) = none → G4.own b = some (N + k, [], none)
omit [Dr] in
theorem cov_one {q : Path} {j : Nat} {q1 : Path} {j1 : Nat} : Cov q j 1 q1 j1 ↔ Und q j q1 j1 :=
  ⟨fun h => by obtain ⟨k, h1, h2, h3⟩ := h; obtain rfl : k = j := by omega
               exact h3, fun h => ⟨j, Nat.le_refl _, Nat.lt_succ_self _, h⟩⟩
omit [Dr] in
theorem not_und_up {s : Step} {q : Path} {j k : Nat} : ¬ Und (s :: q) j q k := fun h => by
  rcases h with ⟨h, _⟩ | ⟨t, c, i, h⟩
  · have := congrArg List.length h; simp at this
  · have := congrArg List.length h; simp at this; omega
theorem back_row (h : Rel w0 L ok0 e a w G) (H : Boxes G e.objs.length As) {k0 d : Nat} {q : Path} {j : Nat} {o : AObj} {l m : List AV} {E c : Nat} {r : List (List AV)} (ho : e.objs[d]? = some o) (hl : o.k.cells = some l)
    (hm : elemsAt l q = some m) (hj : m[j]? = some (.row E c r)) (hv0 : vs k0 = G.h d q j) (hlf : Left w w' ((G.reloc d q j (e.objs.length + k0) [] 0).callee e.objs.length As lent vs) G')
    (hbx : ∀ k d, k < As.length → boxKey (As.getD k .unk) = some d → G'.own (G.bl d) = some (k, [], none) ∧ ∃ n, e.kind d = .box (List.replicate n .unk) ∧ ∃ cs T, w'.heap[G.bl d]? = some (.cells cs T (0, 0)) ∧ cs.size = n)
    {out : AV} (hout : (∃ r', out = .row E c r' ∧ r'.length = r.length ∧ RepC w' G' k0 [] 0 (vs k0) (.row E c r')) ∨ out = .unk) :
    ∃ G4, Rel w0 L ok0 (e.setObj d ⟨o.gen, addBelow o.vs q j, o.k.withCells (setE l q fun m => m.set j out)⟩) a w' G4 ∧ Keeps w w' G G4 e (e.setObj d ⟨o.gen, addBelow o.vs q j, o.k.withCells (setE l q fun m => m.set j out)⟩) ∧
      Aft w' e.objs.length As G G' G4 (fun k => k = k0) := by
  have hd : d < e.objs.length := lt_obj ho
  have hsz : w.heap.size ≤ w'.heap.size := hlf.fr.size
  have hjm : j < m.length := lt_of_get hj
  generalize hN : e.objs.length = N at *
  let Gr := G.reloc d q j (N + k0) [] 0
  have Hr : Boxes Gr N As := ⟨fun k d1 h1 h2 => ⟨(H.own k d1 h1 h2).1, Gh.reloc_own_box (H.own k d1 h1 h2).2⟩, H.inj⟩
  have hrown : ∀ b p, Gr.own b = some p → b < w.heap.size ∧ (w0.heap.size ≤ b ∨ L b) ∧ ∀ o, ¬ Gr.ok b o := fun b p hp => by
    obtain ⟨p', hp'⟩ := Gh.reloc_own_inv hp
    exact h.own b p' hp'
  have hLc := (callee_fit (w := w) (G := Gr) (vs := vs) (lent := lent) (L := L) (w0 := w0) h.okb hrown Hr).2.2
  let Lc : Nat → Prop := fun b => ∃ p, (Gr.callee N As lent vs).own b = some p
  let Gb := Gr.back G' N As Lc
  let D : Nat → Prop := fun b => ∃ k, BoxAt G As b k
  have hDown : ∀ b, D b → ∃ k d, k < As.length ∧ boxKey (As.getD k .unk) = some d ∧ b = G.bl d ∧ d < N ∧ G.own b = some (d, [], none) := fun b hb => by
    obtain ⟨k, h1, d1, h2, h3⟩ := hb
    obtain ⟨h4, h5⟩ := H.own k d1 h1 h2
    exact ⟨k, d1, h1, h2, h3, h4, by rw [h3]; exact h5⟩
  have hDLc : ∀ b, D b → Lc b := fun b hb => by
    obtain ⟨k, hk⟩ := hb
    exact ⟨_, Hr.callee_box hk⟩
  obtain ⟨hv, kv⟩ := holes_rep (w' := w') h D hsz (fun b hb => by
    obtain ⟨k, d1, h1, h2, h3, h4, _⟩ := hDown b hb
    obtain ⟨_, n, h6, cs, T, h7, h8⟩ := hbx k d1 h1 h2
    exact ⟨d1, n, by rw [hN]; exact h4, h3, h6, cs, T, by rw [h3]; exact h7, h8⟩)
  have hheap : ∀ b, b < w.heap.size → ¬ Lc b → w'.heap[b]? = (graft w w' D).heap[b]? := fun b hb hn => by
    rw [graft_other (fun hh => hn (hDLc b hh))]
    exact hlf.fr.block b hb hn
  have hnot : ∀ b d1 q1 x, Gr.own b = some (d1, q1, x) → d1 < N → ¬ D b → ¬ Lc b := fun b d1 q1 x hb hd1 hnD hh => by
    obtain ⟨p, hp⟩ := hh
    rcases Hr.callee_inv hp with ⟨k, hk, _⟩ | ⟨d2, q2, x', h1, h2, _⟩
    · exact hnD ⟨k, hk⟩
    · rw [hb] at h2; cases h2; omega
  have hkeep : ∀ b p, Gr.own b = some p → ¬ Lc b → Gb.own b = some p := fun b p hp hn => by
    have hn' : G'.own b = none := by
      cases ho : G'.own b with
      | none => rfl
      | some p' =>
        have := (hrown b p hp).1
        rcases (hlf.own b p' ho).2.1 with h5 | h5
        · omega
        · exact absurd h5 hn
    simp only [Gb, Gh.back, hn']
    rw [if_neg hn]; exact hp
  -- a row that is not the lent one, nor below it
  have hrowS : ∀ b d1 q1 j1, G.own b = some (d1, q1, some j1) → d1 < N → ¬ (d1 = d ∧ Und q j q1 j1) → Gb.own b = some (d1, q1, some j1) ∧ w'.heap[b]? = (graft w w' D).heap[b]? := fun b d1 q1 j1 hb hd1 hu => by
    have hnD : ¬ D b := fun hh => by
      obtain ⟨k, d2, _, _, _, _, h6⟩ := hDown b hh
      rw [hb] at h6; cases h6
    have hr1 : Gr.own b = some (d1, q1, some j1) := Gh.reloc_own_other hb hu
    have hn := hnot b d1 q1 _ hr1 hd1 hnD
    exact ⟨hkeep b _ hr1 hn, hheap b (h.own b _ hb).1 hn⟩
  have hboxS : ∀ b d1, G.own b = some (d1, [], none) → d1 < N → Gb.own b = some (d1, [], none) ∧ w'.heap[b]? = (graft w w' D).heap[b]? := fun b d1 hb hd1 => by
    by_cases hDb : D b
    · obtain ⟨k, d2, h1, h2, h3, h4, h5⟩ := hDown b hDb
      obtain ⟨g1, n, g2, cs, T, g3, g4⟩ := hbx k d2 h1 h2
      rw [hb] at h5
      have hdd : d1 = d2 := by cases h5; rfl
      subst hdd
      rw [← h3] at g1
      refine ⟨by simp only [Gb, Gh.back, g1, h2], ?_⟩
      rw [graft_at (h.own b _ hb).1 (hlf.own b _ g1).1 hDb]
    · have hr1 : Gr.own b = some (d1, [], none) := Gh.reloc_own_box hb
      have hn := hnot b d1 [] none hr1 hd1 hDb
      exact ⟨hkeep b _ hr1 hn, hheap b (h.own b _ hb).1 hn⟩
  have hbh : ∀ d1 q1 j1, d1 < N → Gb.h d1 q1 j1 = G.h d1 q1 j1 := fun d1 q1 j1 hd1 => by
    have e1 : Gb.h d1 q1 j1 = Gr.h d1 q1 j1 := by simp only [Gb, Gh.back]; rw [if_neg (by omega)]
    rw [e1]
    exact Gh.reloc_h_other (fun hh => by omega)
  have hback : ∀ k q1 j1 v A, RepC w' G' k q1 j1 v A → RepC w' Gb (N + k) q1 j1 v A := fun k q1 j1 v A hh => RepC.back hh
  have hbown : ∀ b k, G'.own b = some (k, [], none) → boxKey (As.getD k .unk) = none → Gb.own b = some (N + k, [], none) := fun b k hb hk => by simp only [Gb, Gh.back, hb, hk]
  obtain ⟨G4, P1, P2, P3, P4, P5, P5b, P5v, P6, P7, P8⟩ : ∃ G4 : Gh, (∀ d1 q1 j1, ¬ (d1 = d ∧ Und q j q1 j1) → G4.h d1 q1 j1 = Gb.h d1 q1 j1) ∧ (∀ b d1 q1 j1, Gb.own b = some (d1, q1, some j1) → d1 ≠ N + k0 → G4.own b = some (d1, q1, some j1)) ∧
      (∀ b d1, Gb.own b = some (d1, [], none) → G4.own b = some (d1, [], none)) ∧ (∀ b p, G4.own b = some p → ∃ p', Gb.own b = some p') ∧ G4.ok = Gb.ok ∧ G4.bl = Gb.bl ∧ G4.vs = Gb.vs ∧ G4.h d q j = G.h d q j ∧ RepC w' G4 d q j (vs k0) out ∧
      (∀ k q1 j1 v A, k ≠ k0 → RepC w' Gb (N + k) q1 j1 v A → RepC w' G4 (N + k) q1 j1 v A) := by
    rcases hout with ⟨r', rfl, hr1, hr2⟩ | rfl
    · refine ⟨Gb.reloc (N + k0) [] 0 d q j, fun d1 q1 j1 hn => Gh.reloc_h_other hn, fun b d1 q1 j1 hb hn => Gh.reloc_own_other hb (fun hh => hn hh.1), fun b d1 hb => Gh.reloc_own_box hb, fun b p hp => Gh.reloc_own_inv hp, rfl, rfl, rfl, ?_, RepC.reloc (by omega) (hback _ _ _ _ _ hr2), fun k q1 j1 v A hk hh => RepC.reloc_other hh (fun q2 j2 _ h2 => by omega) (fun q2 j2 _ h2 => by omega)⟩
      have e1 : (Gb.reloc (N + k0) [] 0 d q j).h d q j = Gb.h (N + k0) [] 0 := by
        simp only [Gh.reloc, if_true, reloc_self]
      have e2 : Gb.h (N + k0) [] 0 = G'.h k0 [] 0 := by
        simp only [Gb, Gh.back]
        rw [if_pos (Nat.le_add_right _ _), Nat.add_sub_cancel_left]
      rw [e1, e2, ← hr2.rowInv.1, hv0]
    · exact ⟨Gb, fun _ _ _ _ => rfl, fun _ _ _ _ hb _ => hb, fun _ _ hb => hb, fun b p hp => ⟨p, hp⟩, rfl, rfl, rfl, hbh d q j hd, .unk _, fun _ _ _ _ _ _ hh => hh⟩
  have hok4 : G4.ok = G'.ok := P5
  have hblE : ∀ d1, d1 < N → G4.bl d1 = G.bl d1 := fun d1 hd1 => by
    rw [P5b]; simp only [Gb, Gh.back]; rw [if_neg (by omega)]; rfl
  have hvsE : ∀ d1 j1, d1 < N → G4.vs d1 j1 = G.vs d1 j1 := fun d1 j1 hd1 => by
    rw [P5v]; simp only [Gb, Gh.back]; rw [if_neg (by omega)]; rfl
  have hhE : ∀ d1 q1 j1, d1 < N → ¬ (d1 = d ∧ Und q j q1 j1) → G4.h d1 q1 j1 = G.h d1 q1 j1 := fun d1 q1 j1 hd1 hn => by rw [P1 d1 q1 j1 hn, hbh d1 q1 j1 hd1]
  have t : Turn e d o l q m (m.set j out) j 1 (addBelow o.vs q j) false true := ⟨ho, hl, hm, by simp, by omega, fun i hi hne => getD_set_ne _ _ _ _ _ (fun hh => hne (by omega)), h.vlen d o l ho hl, .inr (.inr ⟨rfl, rfl, rfl, E, c, r, hj, by
    rcases hout with ⟨r', rfl, hr1, _⟩ | rfl
    · exact .inl ⟨r', by simp [hjm], hr1⟩
    · exact .inr (by rw [getD_set_eq _ _ _ _ hjm]; rfl)⟩)⟩
  have hs : Stays (graft w w' D) w' G G4 e.objs.length d q j 1 := by
    rw [hN]
    refine ⟨fun b o hh => by rw [hok4]; exact hlf.okm b o hh, fun b o hh => SameAt.of_block (hheap b (h.okb b o hh) (fun hh2 => (hLc b hh2).2.2 o hh)), fun d1 q1 j1 hd1 hn => ?_, fun d1 b hd1 hb => P3 _ _ (hboxS b d1 hb hd1).1, hblE, fun d1 j1 hd1 _ => hvsE d1 j1 hd1,
      fun d1 q1 j1 b hd1 hn _ hb => ?_, fun d1 b hd1 _ hb => (hboxS b d1 hb hd1).2⟩
    · rw [cov_one] at hn
      exact ⟨hhE d1 q1 j1 hd1 hn, fun b hb => P2 _ _ _ _ (hrowS b d1 q1 j1 hb hd1 hn).1 (by omega)⟩
    · rw [cov_one] at hn
      exact (hrowS b d1 q1 j1 hb hd1 hn).2
  have hO := hv.objs d (by rw [hN]; exact hd)
  rw [Env.kind_of ho] at hO
  have hcell : cellV w' G4 d o.k q j = vs k0 := by
    have hnv := nav hO hl hm j hjm
    rw [getD_of hj] at hnv
    rw [hv0, ← hnv.rowInv.1]
    cases q with
    | nil =>
      simp only [elemsAt, Option.some.injEq] at hm
      cases hk : o.k with
      | dead => rw [hk] at hl; cases hl
      | map lm => rw [hk] at hl; cases hl
      | val lv => simp only [cellV]; rw [hvsE d j hd]
      | box lb =>
        rw [hk] at hO
        simp only [cellV]
        rw [hblE d hd, World.cell?_of_block (hboxS _ d hO.1 hd).2]
    | cons s q' =>
      obtain ⟨m0, E0, r0, b, cap, cur, n1, n2, n3, n4, n5, n6⟩ := navRow hO hl hm
      simp only [cellV]
      have e1 : pblk G4 d (s :: q') = pblk G d (s :: q') := by
        simp only [pblk]
        rw [hhE d q' s.1 hd (fun hh => not_und_up hh.2)]
      rw [e1, n5, World.cell?_of_block (hrowS b d q' s.1 n4.own hd (fun hh => not_und_up hh.2)).2]
  have hR := hv.turn t hs
    ⟨hlf.fr.os.trans h.fr.os, hlf.fr.tape.trans h.fr.tape, hlf.fr.output.trans h.fr.output, Nat.le_trans h.fr.size hsz, fun k hk hL => by
      rw [← h.fr.block k hk hL]
      exact hlf.fr.block k (by have := h.fr.size; omega) (fun hh => by rcases (hLc k hh).2.1 with h5 | h5; omega; exact hL h5), fun dd => Nat.le_trans (h.fr.drawn dd) (hlf.fr.drawn dd)⟩
    (fun b o hh => by rw [hok4] at hh; exact hlf.okb b o hh)
    (fun b o hb hL hh => by
      rw [hok4] at hh
      exact h.ok0 b o hb hL (hlf.ok0 b o (by have := h.fr.size; omega) (fun hh2 => by rcases (hLc b hh2).2.1 with h5 | h5; omega; exact hL h5) hh))
    (fun b p hp => by
      rw [hok4]
      obtain ⟨p2, hp2⟩ := P4 b p hp
      cases ho : G'.own b with
      | some p' =>
        obtain ⟨x1, x2, x3⟩ := hlf.own b p' ho
        refine ⟨x1, ?_, x3⟩
        rcases x2 with h5 | h5
        · exact .inl (Nat.le_trans h.fr.size h5)
        · exact (hLc b h5).2.1
      | none =>
        simp only [Gb, Gh.back, ho] at hp2
        by_cases hc : Lc b
        · rw [if_pos hc] at hp2; cases hp2
        · rw [if_neg hc] at hp2
          obtain ⟨x1, x2, x3⟩ := hrown b p2 hp2
          exact ⟨by omega, x2, fun o hh => x3 o (hlf.ok0 b o x1 hc hh)⟩)
    (fun hq lb hk vs1 T hh => ⟨vs1, by
      rw [hk] at hO
      rw [(hboxS _ d hO.1 hd).2]; exact hh, rfl, fun _ _ => rfl⟩)
    (fun s q' hq b cap cur E1 r1 hra => ⟨cur, by
      subst hq
      rw [(hrowS b d q' s.1 hra.own hd (fun hh => not_und_up hh.2)).2]; exact hra.hb, rfl, fun _ _ => rfl⟩)
    (fun i h1 h2 h3 => by
      obtain rfl : i = j := by omega
      rw [hcell, getD_set_eq _ _ _ _ hjm]; exact P7)
    (fun i B h1 h2 h3 h4 => by cases h3.1) (fun _ => P6)
  have henv : t.env = e.setObj d ⟨o.gen, addBelow o.vs q j, o.k.withCells (setE l q fun m => m.set j out)⟩ := by
    simp only [Turn.env, Turn.obj]
    rw [setE_fn (fun m => m.set j out) hm]
  have ht0 : ∀ v A, RepT0 (graft w w' D) G e v A → RepT0 w' G4 t.env v A := fun v A hh => t.rep0 (fun d1 q1 j1 hn hd1 => (hs.lab d1 q1 j1 hd1 hn).1) hs.bl hs.ok hs.same (fun i B h1 h2 h3 h4 => by cases h3.1) (fun _ => P6) hh
  rw [henv] at hR ht0
  exact ⟨G4, hR, kv.trans ⟨ht0, Env.setObj_len _ _ _, rfl⟩, hok4, hblE, fun k => by rw [P5b]; simp only [Gb, Gh.back]; rw [if_pos (Nat.le_add_right _ _), Nat.add_sub_cancel_left],
    fun k q1 j1 v A hk hh => P8 k q1 j1 v A hk (hback k q1 j1 v A hh), fun b k hb hk => P3 _ _ (hbown b k hb hk)⟩
/-- No row lent. -/
theorem back_none (h : Rel w0 L ok0 e a w G) (H : Boxes G e.objs.length As) (hl : Left w w' (G.callee e.objs.length As lent vs) G')
    (hbx : ∀ k d, k < As.length → boxKey (As.getD k .unk) = some d → G'.own (G.bl d) = some (k, [], none) ∧ ∃ n, e.kind d = .box (List.replicate n .unk) ∧ ∃ cs T, w'.heap[G.bl d]? = some (.cells cs T (0, 0)) ∧ cs.size = n) :
    ∃ G4, Rel w0 L ok0 e a w' G4 ∧ Keeps w w' G G4 e e ∧ Aft w' e.objs.length As G G' G4 (fun _ => False) := by
  obtain ⟨h1, h2⟩ := back_stay h H hl hbx
  refine ⟨_, h1, h2, rfl, fun d1 hd1 => ?_, fun k => ?_, fun k q1 j1 v A _ hh => RepC.back hh, fun b k hb hk => by simp only [Gh.back, hb, hk]⟩
  · simp only [Gh.back]; rw [if_neg (by omega)]
  · simp only [Gh.back]; rw [if_pos (Nat.le_add_right _ _), Nat.add_sub_cancel_left]
end
end Go.Nv
