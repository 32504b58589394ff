import Derived.Test.YtnfmilnlekmjgaaBvOps7
set_option linter.unusedVariables false
set_option linter.unusedSimpArgs false
namespace Go.Bv
open Go.RowKit

section
variable {P : Program} {base : Nat} {w0 : World} {ok0 : Nat → Nat → Prop} {e : Env} {a : Act} {w : World} {G : Gh}
variable {R : Nat → List AV → Option AV} {o : Oper} {K : Act → World → Prop} {Q : Exit → Act → World → Prop} {e' : Env}

/-! ### Structs compared -/
theorem sameCells_append : ∀ {ks ks' : List CK} {l m : List AV} {r : Bool}, sameCells (ks ++ ks') l m = some r →
    ∃ r1 r2, sameCells ks (l.take ks.length) (m.take ks.length) = some r1 ∧ sameCells ks' (l.drop ks.length) (m.drop ks.length) = some r2 ∧ r = (r1 && r2)
  | [], ks', l, m, r, h => ⟨true, r, rfl, by simpa using h, by simp⟩
  | .int :: ks, ks', l, m, r, h => by
    cases l with
    | nil => simp [sameCells] at h
    | cons A l =>
      cases m with
      | nil => cases A <;> simp [sameCells] at h
      | cons B m =>
        cases A <;> cases B <;> simp only [List.cons_append, sameCells] at h <;> try (cases h; done)
        rename_i k a k' b
        by_cases hk : k = k'
        case neg => rw [if_neg hk] at h; cases h
        rw [if_pos hk] at h
        cases h1 : sameCells (ks ++ ks') l m with
        | none => simp [h1] at h
        | some r' =>
          simp [h1] at h
          obtain ⟨r1, r2, q1, q2, q3⟩ := sameCells_append h1
          exact ⟨a == b && r1, r2, by simp [sameCells, hk, q1], by simpa using q2, by rw [← h, q3, Bool.and_assoc]⟩
  | .bool :: ks, ks', l, m, r, h => by
    cases l with
    | nil => simp [sameCells] at h
    | cons A l =>
      cases m with
      | nil => cases A <;> simp [sameCells] at h
      | cons B m =>
        cases A <;> cases B <;> simp only [List.cons_append, sameCells] at h <;> try (cases h; done)
        rename_i a b
        cases h1 : sameCells (ks ++ ks') l m with
        | none => simp [h1] at h
        | some r' =>
          simp [h1] at h
          obtain ⟨r1, r2, q1, q2, q3⟩ := sameCells_append h1
          exact ⟨a == b && r1, r2, by simp [sameCells, q1], by simpa using q2, by rw [← h, q3, Bool.and_assoc]⟩
  | .str :: ks, ks', l, m, r, h => by
    cases l with
    | nil => simp [sameCells] at h
    | cons A l =>
      cases m with
      | nil => cases A <;> simp [sameCells] at h
      | cons B m =>
        cases A <;> cases B <;> simp only [List.cons_append, sameCells] at h <;> try (cases h; done)
        rename_i a b
        cases h1 : sameCells (ks ++ ks') l m with
        | none => simp [h1] at h
        | some r' =>
          simp [h1] at h
          obtain ⟨r1, r2, q1, q2, q3⟩ := sameCells_append h1
          exact ⟨a.toList == b.toList && r1, r2, by simp [sameCells, q1], by simpa using q2, by rw [← h, q3, Bool.and_assoc]⟩

theorem sameCells_len : ∀ {ks : List CK} {l m : List AV} {r : Bool}, sameCells ks l m = some r → l.length = ks.length ∧ m.length = ks.length
  | [], l, m, r, h => by cases l <;> cases m <;> simp [sameCells] at h <;> exact ⟨rfl, rfl⟩
  | k :: ks, l, m, r, h => by
    cases l with
    | nil => cases k <;> simp [sameCells] at h
    | cons A l =>
      cases m with
      | nil => cases k <;> cases A <;> simp [sameCells] at h
      | cons B m =>
        have : ∃ r', sameCells ks l m = some r' := by
          cases k <;> cases A <;> cases B <;> simp only [sameCells] at h <;> try (cases h; done)
          · split at h
            · cases h1 : sameCells ks l m with
              | none => simp [h1] at h
              | some r' => exact ⟨r', rfl⟩
            · cases h
          all_goals
            cases h1 : sameCells ks l m with
            | none => simp [h1] at h
            | some r' => exact ⟨r', rfl⟩
        obtain ⟨r', h'⟩ := this
        obtain ⟨q1, q2⟩ := sameCells_len h'
        exact ⟨by simp [q1], by simp [q2]⟩

/-- A value whose cells are told. -/
def CellsOf (w : World) (ok : Nat → Nat → Prop) (agg : Bool) (v : Value) (l : List AV) : Prop :=
  if agg then ∃ xs : Array Value, v = .agg xs ∧ xs.size = l.length ∧ ∀ j, j < l.length → RepR w ok (xs.getD j undef) (l.getD j .unk)
  else ∃ A, l = [A] ∧ RepR w ok v A

def isAggT (P : Program) (t : TypeId) : Bool := match P.underlying t with
  | some (.struct _) => true
  | some (.array _ _) => true
  | _ => false

theorem run_isAgg {t : TypeId} {d : TypeDesc} (hd : P.underlying t = some d) (w : World) : (isAgg t).run P w = .ok (isAggT P t) w := by
  unfold isAggT
  cases d <;> simp [isAgg, run_underlying hd, hd]

theorem plainT_agg {d : Nat} {t : TypeId} {ks : List CK} (h : plainT P d t = some ks) : ∃ D, P.underlying t = some D := by
  cases d with
  | zero => simp [plainT] at h
  | succ d =>
    simp only [plainT] at h
    cases hu : P.underlying t with
    | none => simp [hu] at h
    | some D => exact ⟨D, rfl⟩

theorem run_eqFields_plain {d D : Nat} {ok : Nat → Nat → Prop}
    (ih : ∀ t ks, plainT P d t = some ks → ∀ vx vy l m r, CellsOf w ok (isAggT P t) vx l → CellsOf w ok (isAggT P t) vy m → sameCells ks l m = some r → (Op.equalIn D t vx vy).run P w = .ok r w)
    (hsz : ∀ t ks, plainT P d t = some ks → isAggT P t = true → sizeOf? P t = some ks.length) (h1 : ∀ t ks, plainT P d t = some ks → isAggT P t = false → ks.length = 1)
    (xs ys : Array Value) (L M : List AV) (hxs : xs.size = L.length) (hys : ys.size = M.length) (hx : ∀ j, j < L.length → RepR w ok (xs.getD j undef) (L.getD j .unk)) (hy : ∀ j, j < M.length → RepR w ok (ys.getD j undef) (M.getD j .unk)) :
    ∀ (fs : List Field) (n : Nat) (ks : List CK) (r : Bool), n ≤ L.length → n ≤ M.length → fieldsK (plainT P d) fs n = some ks → sameCells ks (L.drop n) (M.drop n) = some r → (Op.eqFields D xs ys fs).run P w = .ok r w := by
  intro fs
  induction fs with
  | nil =>
    intro n ks r hnL hnM hf hs
    simp [fieldsK] at hf
    subst hf
    have := sameCells_len hs
    simp only [List.length_nil] at this
    rw [List.eq_nil_of_length_eq_zero this.1, List.eq_nil_of_length_eq_zero this.2] at hs
    simp [sameCells] at hs
    subst hs
    simp [Op.eqFields]
  | cons f fs ihf =>
    intro n ks r hnL hnM hf hs
    simp only [fieldsK] at hf
    by_cases hn : f.name ≠ "_" ∧ f.offset = n
    case neg => rw [if_neg hn] at hf; cases hf
    rw [if_pos hn] at hf
    obtain ⟨hname, hoff⟩ := hn
    cases hp : plainT P d f.type with
    | none => simp [hp] at hf
    | some k1 =>
      simp only [hp] at hf
      cases hf2 : fieldsK (plainT P d) fs (n + k1.length) with
      | none => simp [hf2] at hf
      | some k2 =>
        simp only [hf2, Option.some.injEq] at hf
        subst hf
        have hlen := sameCells_len hs
        simp only [List.length_drop, List.length_append] at hlen
        obtain ⟨r1, r2, s1, s2, rfl⟩ := sameCells_append hs
        rw [List.drop_drop, List.drop_drop] at s2
        have hrest := ihf (n + k1.length) k2 r2 (by omega) (by omega) hf2 s2
        have part : ∀ (zs : Array Value) (N : List AV), zs.size = N.length → (∀ j, j < N.length → RepR w ok (zs.getD j undef) (N.getD j .unk)) → n + k1.length ≤ N.length → ∃ v, (part f.type zs f.offset).run P w = .ok v w ∧ CellsOf w ok (isAggT P f.type) v ((N.drop n).take k1.length) := by
          intro zs N hzs hz hle
          obtain ⟨DD, hDD⟩ := plainT_agg hp
          have hagg := run_isAgg hDD w
          cases hag : isAggT P f.type with
          | true =>
            have hsize := hsz _ _ hp hag
            rw [hag] at hagg
            refine ⟨.agg (zs.extract n (n + k1.length)), ?_, ?_⟩
            · simp [Go.part, hagg, run_sizeOf hsize, hoff]
            · simp only [CellsOf, if_true]
              refine ⟨_, rfl, by simp; omega, fun j hj => ?_⟩
              have hj' : j < k1.length := by simp at hj; omega
              have hz' := hz (n + j) (by omega)
              rw [drop_take_getD N n k1.length j hj' hle]
              have e1 : (zs.extract n (n + k1.length)).getD j undef = zs.getD (n + j) undef := by
                simp [Array.getElem?_extract, show j < min (n + k1.length) zs.size - n by omega, show n + j < zs.size by omega]
              rw [e1]; exact hz'
          | false =>
            have hk := h1 _ _ hp hag
            rw [hag] at hagg
            have hlt : n < zs.size := by omega
            refine ⟨zs.getD n undef, ?_, ?_⟩
            · simp [Go.part, hagg, hoff, hlt]
            · simp only [CellsOf, Bool.false_eq_true, if_false]
              refine ⟨N.getD n .unk, ?_, hz n (by omega)⟩
              rw [hk]
              have hlt' : n < N.length := by omega
              have h9 : (N.drop n).take 1 = [N[n]] := by rw [List.drop_eq_getElem_cons hlt']; rfl
              rw [h9]
              simp [List.getD_eq_getElem?_getD, hlt']
        obtain ⟨vx, p1, p2⟩ := part xs L hxs hx (by omega)
        obtain ⟨vy, p3, p4⟩ := part ys M hys hy (by omega)
        have heq := ih _ _ hp vx vy _ _ r1 p2 p4 s1
        simp only [Op.eqFields, hname, ne_eq, not_false_eq_true, if_true, Sem.run_bind, p1, p3, heq, Result.andThen_ok]
        cases r1
        · simp
        · simp [hrest]

theorem run_equalIn_plain {ok : Nat → Nat → Prop} : ∀ (d : Nat) (t : TypeId) (ks : List CK), plainT P d t = some ks → ∀ D, d ≤ D → ∀ vx vy l m r, CellsOf w ok (isAggT P t) vx l → CellsOf w ok (isAggT P t) vy m → sameCells ks l m = some r →
    (Op.equalIn D t vx vy).run P w = .ok r w := by
  intro d
  induction d with
  | zero => intro t ks h; simp [plainT] at h
  | succ d ih =>
    intro t ks h D hD vx vy l m r hx hy hs
    obtain ⟨D, rfl⟩ : ∃ D', D = D' + 1 := ⟨D - 1, by omega⟩
    simp only [plainT] at h
    cases hu : P.underlying t with
    | none => simp [hu] at h
    | some T =>
      cases T <;> simp only [hu] at h <;> try (cases h; done)
      case int k0 =>
        cases h
        simp only [isAggT, hu, CellsOf, Bool.false_eq_true, if_false] at hx hy
        obtain ⟨A, rfl, hA⟩ := hx
        obtain ⟨B, rfl, hB⟩ := hy
        cases A <;> cases B <;> simp only [sameCells] at hs <;> try (cases hs; done)
        rename_i k a k' b
        by_cases hk : k = k'
        case neg => rw [if_neg hk] at hs; cases hs
        rw [if_pos hk] at hs
        subst hk
        simp at hs
        subst hs
        cases hA; cases hB
        exact run_equalIn_int w D t k k0 a b hu
      case bool =>
        cases h
        simp only [isAggT, hu, CellsOf, Bool.false_eq_true, if_false] at hx hy
        obtain ⟨A, rfl, hA⟩ := hx
        obtain ⟨B, rfl, hB⟩ := hy
        cases A <;> cases B <;> simp only [sameCells] at hs <;> try (cases hs; done)
        rename_i a b
        simp at hs
        subst hs
        cases hA; cases hB
        exact run_equalIn_bool' w D t a b hu
      case string =>
        cases h
        simp only [isAggT, hu, CellsOf, Bool.false_eq_true, if_false] at hx hy
        obtain ⟨A, rfl, hA⟩ := hx
        obtain ⟨B, rfl, hB⟩ := hy
        cases A <;> cases B <;> simp only [sameCells] at hs <;> try (cases hs; done)
        rename_i a b
        simp at hs
        subst hs
        cases hA; cases hB
        exact run_equalIn_string w D t a b hu
      case struct fs =>
        by_cases hst : P.stoodInHeld t = false
        case neg => rw [if_neg hst] at h; cases h
        rw [if_pos hst] at h
        cases hf : fieldsK (plainT P d) fs.toList 0 with
        | none => simp [hf] at h
        | some ks' =>
          simp only [hf] at h
          by_cases hsz : sizeOf? P t = some ks'.length
          case neg => rw [if_neg hsz] at h; cases h
          rw [if_pos hsz] at h
          cases h
          simp only [isAggT, hu, CellsOf, if_true] at hx hy
          obtain ⟨xs, rfl, hxs, hx⟩ := hx
          obtain ⟨ys, rfl, hys, hy⟩ := hy
          have hfo : P.fieldsOf t = fs := by simp [Program.fieldsOf, hu]
          rw [run_equalIn_struct w D t xs ys (by rw [hfo]; exact hu) hst, hfo]
          refine run_eqFields_plain (d := d) (D := D) (ok := ok) (fun t' ks' h' vx vy l m r a1 a2 a3 => ih t' ks' h' D (by omega) vx vy l m r a1 a2 a3) (fun t' ks' h' hag => ?_) (fun t' ks' h' hag => ?_) xs ys l m hxs hys hx hy fs.toList 0 ks r (Nat.zero_le _) (Nat.zero_le _) hf (by simpa using hs)
          · cases d with
            | zero => simp [plainT] at h'
            | succ d =>
              simp only [plainT] at h'
              cases hu' : P.underlying t' with
              | none => simp [hu'] at h'
              | some T' =>
                cases T' <;> simp only [hu'] at h' <;> first
                  | (simp [isAggT, hu'] at hag; done)
                  | (cases h'; done)
                  | skip
                by_cases q : P.stoodInHeld t' = false
                case neg => rw [if_neg q] at h'; cases h'
                rw [if_pos q] at h'
                split at h'
                · rename_i ks2 hks2
                  by_cases q2 : sizeOf? P t' = some ks2.length
                  · rw [if_pos q2] at h'; cases h'; exact q2
                  · rw [if_neg q2] at h'; cases h'
                · cases h'
          · cases d with
            | zero => simp [plainT] at h'
            | succ d =>
              simp only [plainT] at h'
              cases hu' : P.underlying t' with
              | none => simp [hu'] at h'
              | some T' =>
                cases T' <;> simp only [hu'] at h' <;> first
                  | (cases h'; rfl)
                  | (simp [isAggT, hu'] at hag; done)
                  | (cases h'; done)

theorem sim_eqs (h : Rel base w0 ok0 e a w G) {ne : Bool} {op : BinOp} {T U : TypeId} {fs : Array Field} {ks : List CK} {x y : Operand} {x' y' : X} (hx : compX x = some x') (hy : compX y = some y') (ho : o.op = .binOp op T x y U)
    (hop : op = if ne then .neq else .eql) (hT : P.underlying T = some (.struct fs)) (hg : P.eqGuardType P.depth T = false) (hp : plainT P 20 T = some ks)
    (he : evalO R e o.dst (.eqs ne ks x' y') = some e') (hK : ∀ a' w' G', Rel base w0 ok0 e' a' w' G' → K a' w') : o.wp P a w K Q := by
  simp only [evalO, act] at he
  have h1 := compX_rep hx h
  have h2 := compX_rep hy h
  cases hgx : e.get x' <;> simp only [hgx] at he h1 <;> try (cases he; done)
  cases hgy : e.get y' <;> simp only [hgy] at he h2 <;> try (cases he; done)
  rename_i l m
  cases hs : sameCells ks l m with
  | none => simp [hs] at he
  | some r =>
    simp only [hs] at he
    obtain ⟨xs, e1, a1, _, b1⟩ := inv_agg h1
    obtain ⟨ys, e2, a2, _, b2⟩ := inv_agg h2
    have hagg : isAggT P T = true := by simp [isAggT, hT]
    have hr := run_equalIn_plain (P := P) (w := w) (ok := G.ok) 20 T ks hp 10000 (by omega) (.agg xs) (.agg ys) l m r (by rw [hagg]; exact ⟨xs, rfl, a1, b1⟩) (by rw [hagg]; exact ⟨ys, rfl, a2, b2⟩) hs
    refine sim_val0 h (v := .bool (if ne then !r else r)) ?_ (RepR.bool _).toT he hK
    subst hop
    cases ne
    · simp only [execOp, ho, Sem.run_bind, e1, e2, Bool.false_eq_true, if_false, run_eqGuard_agg w _ T x y xs ys hg, Result.andThen_ok, run_eql_struct, hr, Sem.run_pure]
    · simp only [execOp, ho, Sem.run_bind, e1, e2, if_true, run_eqGuard_agg w _ T x y xs ys hg, Result.andThen_ok, run_neq_struct, hr, Sem.run_pure]

end
end Go.Bv
