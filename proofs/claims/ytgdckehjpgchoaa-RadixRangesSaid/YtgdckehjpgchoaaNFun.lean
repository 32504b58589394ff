/- BY VALUE, with trees. Part 45: functions. -/
import Derived.Test.YtgdckehjpgchoaaNCall10
set_option linter.unusedVariables false
set_option linter.unusedSimpArgs false
namespace Go.Nv
variable [Dr]
open Go.RowKit
/-! ### The beginning -/
def startT1 (k : Nat) : AV → AV
  | .row .. => .ref k 1 0 [] 0
  | .bx _ => .ptr k 1 0 [] 0
  | A => A
def startT : Nat → List AV → List AV
  | _, [] => []
  | k, A :: as => startT1 k A :: startT (k + 1) as
def startO1 : AV → AObj
  | .row E c l => ⟨1, [[]], .val [.row E c l]⟩
  | .bx l => ⟨1, List.replicate l.length [], .box l⟩
  | _ => ⟨0, [], .dead⟩
def startO : List AV → List AObj
  | [] => []
  | A :: as => startO1 A :: startO as
def F.start (f : F) (as : List AV) : Env := ⟨startT 0 as ++ List.replicate (f.nt - as.length) .unk, startO as ++ List.replicate (f.nt - as.length) ⟨0, [], .dead⟩⟩
def startOk (rp : List Nat) : Nat → List AV → Bool
  | _, [] => true
  | k, A :: as => (!A.isRow || rp.contains k) && startOk rp (k + 1) as
/-! ### The end -/
def resV (e : Env) : RV → Option AV
  | .tmp t => some (e.tmps.getD t .unk)
  | .tsl t _ _ => some (e.tmps.getD t .unk)
  | .cell t n => act e (.ld n (.t t))
  | .csl t _ _ => act e (.ld none (.t t))
def RV.nilRow : RV → Option (Nat × Nat)
  | .tsl _ E c => some (E, c)
  | .csl _ E c => some (E, c)
  | _ => none
def resVs (e : Env) : List RV → Option (List (AV × Option (Nat × Nat)))
  | [] => some []
  | r :: rs => match resV e r, resVs e rs with
    | some A, some l => some ((A, r.nilRow) :: l)
    | _, _ => none
def nilFix : Option (Nat × Nat) → AV → AV
  | some (E, c), .nil => .row E c []
  | _, A => A
def resGo (e : Env) : List (AV × Option (Nat × Nat)) → Option (List AV × Env)
  | [] => some ([], e)
  | (A, fx) :: rest => match A with
    | .agg l => match e.takes l with
      | some (ps, e1) => match resGo e1 rest with
        | some (m, e2) => some (.agg ps :: m, e2)
        | none => none
      | none => none
    | A => match e.take1 A with
      | some (B, e1) => match resGo e1 rest with
        | some (m, e2) => some (nilFix fx B :: m, e2)
        | none => none
      | none => none
def isPtr : AV → Bool
  | .ptr .. => true
  | _ => false
def tupOf : List AV → AV
  | [A] => A
  | l => .tup l
/-- A variable is handed out, and what leads nowhere beside it. -/
def bxGo (d g : Nat) (l : List AV) : List (AV × Option (Nat × Nat)) → Option (List AV)
  | [] => some []
  | (A, _) :: rest => match bxGo d g l rest with
    | none => none
    | some m => match A with
      | .ptr d' g' _ q j => if d' = d ∧ g' = g ∧ q = [] ∧ j = 0 then some (.bx l :: m) else none
      | A => if A.pure = true then some (A :: m) else none
def resultsA (np : Nat) (rs : List RV) (e : Env) : Option (AV × Env) := match resVs e rs with
  | none => none
  | some Vs => match Vs.find? fun p => isPtr p.1 with
    | some (.ptr d g v _ _, _) => if np ≤ d then (match e.cellsP d g v [] with
        | some l => match bxGo d g l Vs with
          | some m => some (tupOf m, e)
          | none => none
        | none => none) else none
    | _ => match resGo e Vs with
      | some (m, e1) => some (tupOf m, e1)
      | none => none
def outOf (e : Env) (k : Nat) : AV → Option AV
  | .row .. => some (match e.cellR k 1 0 [] 0 with
    | some (.row E c l) => .row E c l
    | _ => .unk)
  | .bx _ => match e.obj k 1 with
    | some o => match o.k with
      | .box l => some (.bx l)
      | _ => none
    | none => none
  | _ => none
def outsOf (e : Env) : Nat → List AV → Option (List AV)
  | _, [] => some []
  | k, A :: as => if isLent A = true then (match outOf e k A, outsOf e (k + 1) as with
      | some B, some l => some (B :: l)
      | _, _ => none) else outsOf e (k + 1) as
def F.finish (f : F) (as : List AV) (e : Env) : Option AV := match resultsA f.np f.res e with
  | some (A, e1) => if as.any isLent = true then (match outsOf e1 0 as with
      | some outs => some (.io A outs)
      | none => none) else (match A with
      | .io .. => none
      | A => some A)
  | none => none
def evalF (R : Nat → List AV → Option AV) (L : (Env → Option (Ex × Env)) → Env → Option (Ex × Env)) (f : F) (as : List AV) : Option AV :=
  if as.length = f.np ∧ f.np ≤ f.nt ∧ startOk f.rp 0 as = true then
    match evalC R L f.body (f.start as) with
    | some (.normal, e) => f.finish as e
    | some (.ret, e) => f.finish as e
    | _ => none
  else none
/-! ### From the loaded function -/
def opersOf : Code → List Oper
  | .region _ ops _ => ops.toList
  | .seq a b => opersOf a ++ opersOf b
  | .cond _ a b => opersOf a ++ opersOf b
  | .block _ a => opersOf a
  | .loop a => opersOf a
  | .scope a => opersOf a
  | _ => []
section
variable (P : Program)
def sliceCells : Nat → TypeId → Nat → List (Nat × Nat × Nat)
  | 0, _, _ => []
  | n + 1, t, off => match P.underlying t with
    | some (.slice E) => match sizeOf? P E with
      | some c => if 0 < c then [(off, E, c)] else []
      | none => []
    | some (.struct fs) => fs.toList.flatMap fun f => sliceCells n f.type (off + f.offset)
    | _ => []
def rowOf (t : Nat) (ty : TypeId) : List (Nat × Nat × Nat) := match P.underlying ty with
  | some (.slice E) => match sizeOf? P E with
    | some c => if 0 < c then [(t, E, c)] else []
    | none => []
  | _ => []
def boxOf (t : Nat) (ty : TypeId) : List (Nat × Nat × Nat × Nat) := (sliceCells P 12 ty 0).map fun p => (t, p)
def hdOf (fn : Func) (c : Code) : Hd :=
  let os := opersOf c
  { np := fn.params.size + fn.nfree
    rp := (List.range fn.params.size).filter fun k => match (fn.params[k]?).bind P.underlying with
      | some (.slice _) => true
      | _ => false
    rows := ((List.range fn.params.size).flatMap fun k => match fn.params[k]? with
        | some t => rowOf P k t
        | none => []) ++ (os.flatMap fun o => match o.dst with
        | some t => rowOf P t o.type
        | none => []).eraseDups
    bxs := ((List.range fn.params.size).flatMap fun k => match (fn.params[k]?).bind P.underlying with
        | some (.pointer t) => boxOf P k t
        | _ => []) ++ (os.flatMap fun o => match o.dst, o.op with
        | some t, .alloc T => boxOf P t T
        | some t, .box T _ => boxOf P t T
        | _, _ => []).eraseDups }
def compRV (t : Option TypeId) : ResultVar → Option RV
  | .tmp x => match t.bind P.underlying with
    | some (.slice E) => (sizeOf? P E).map fun c => .tsl x E c
    | _ => some (.tmp x)
  | .cell a t => match P.underlying t, sizeOf? P t with
    | some d, some n => match d with
      | .struct _ => some (.cell a (some n))
      | .array _ _ => some (.cell a (some n))
      | .slice E => (sizeOf? P E).map fun c => .csl a E c
      | _ => some (.cell a none)
    | _, _ => none
def compRVs : List TypeId → List ResultVar → Option (List RV)
  | _, [] => some []
  | ts, r :: rs => match compRV P ts.head? r, compRVs ts.tail rs with
    | some x, some l => some (x :: l)
    | _, _ => none
def RV.tm : RV → Nat
  | .tmp t => t
  | .tsl t _ _ => t
  | .cell t _ => t
  | .csl t _ _ => t
def compF (f : Nat) : Option F :=
  match P.funcs[f]? with
  | some fn => match fn.body with
    | some c => if (fn.name == "runtime.NumGoroutine") = true then none else match compC P c, compRVs P fn.resultTypes.toList fn.results.toList with
      | some k, some rs => some ⟨(hdOf P fn c).np, fn.ntmps, (hdOf P fn c).rp, rs, mark (hdOf P fn c) (rs.map RV.tm) k (fun _ => []) (rs.map RV.tm)⟩
      | _, _ => none
    | none => none
  | none => none
end
section
variable {P : Program} {w0 : World} {L : Lend} {ok0 : Nat → Nat → Prop} {e e1 e2 : Env} {a : Act} {w : World} {G : Gh}
/-! ### Results, taken -/
def cnt (l : List AV) : Nat := (l.filter fun A => !A.pure).length
omit [Dr] in
theorem cnt_snoc (B : AV) (m : List AV) : cnt (B :: m) = cnt [B] + cnt m := by
  unfold cnt
  by_cases h : B.pure = true
  · simp [h]
  · simp [h]; omega
/-- The cells of a struct are taken, their rows one behind the other. -/
theorem takesC {K : Nat} : ∀ {l m : List AV} {e e1 : Env} {G : Gh} {k0 : Nat} {vals : Nat → Value}, Rel w0 L ok0 e a w G → e.objs.length ≤ K → (∀ i, i < l.length → RepT0 w G e (vals i) (l.getD i .unk)) → e.takes l = some (m, e1) →
    m.length = l.length ∧ ∃ G1, Rel w0 L ok0 e1 a w G1 ∧ (∀ i, i < m.length → RepC w G1 K [] (k0 + cnt (m.take i)) (vals i) (m.getD i .unk)) ∧ Keeps w w G G1 e e1 ∧ (∀ K2 k2 v2 B2, e.objs.length ≤ K2 → ¬ (K2 = K ∧ k0 ≤ k2) → RepC w G K2 [] k2 v2 B2 → RepC w G1 K2 [] k2 v2 B2) ∧ G1.ok = G.ok
  | [], m, e, e1, G, k0, vals, h, hK, hl, ht => by
    simp only [Env.takes, Option.some.injEq, Prod.mk.injEq] at ht
    obtain ⟨rfl, rfl⟩ := ht
    exact ⟨rfl, G, h, fun i hi => absurd hi (by simp), .refl, fun _ _ _ _ _ _ hh => hh, rfl⟩
  | A :: l, m, e, e1, G, k0, vals, h, hK, hl, ht => by
    simp only [Env.takes] at ht
    cases h1 : e.take1 A with
    | none => simp [h1] at ht
    | some r =>
      obtain ⟨B, e2⟩ := r
      simp only [h1] at ht
      cases h2 : e2.takes l with
      | none => simp [h2] at ht
      | some r2 =>
        obtain ⟨m2, e3⟩ := r2
        simp only [h2, Option.some.injEq, Prod.mk.injEq] at ht
        obtain ⟨rfl, rfl⟩ := ht
        obtain ⟨G1, r1, r2, r3, r4, r5⟩ := take_rep h (kk := k0) hK (hl 0 (by simp)) h1
        have hlen := r3.len
        obtain ⟨i1, G2, i2, i3, i4, i5, i6⟩ := takesC (K := K) (k0 := k0 + cnt [B]) (vals := fun i => vals (i + 1)) r1 (show e2.objs.length ≤ K by omega) (fun i hi => r3.t _ _ (by have := hl (i + 1) (by simpa using hi); simpa using this)) h2
        refine ⟨by simp [i1], G2, i2, fun i hi => ?_, r3.trans i4, fun K2 k2 v2 B2 hK2 hn hh => ?_, i6.trans r5⟩
        · cases i with
          | zero =>
            show RepC w G2 K [] (k0 + 0) (vals 0) B
            by_cases hp : B.pure = true
            · exact .pure hp ((r2.pureInv hp).mono (fun b o hh => by rw [i6]; exact hh) (fun _ _ _ => SameAt.refl))
            · refine i5 K _ _ _ (show e2.objs.length ≤ K by omega) (fun hh => ?_) r2
              have : cnt [B] = 1 := by simp [cnt, hp]
              omega
          | succ i =>
            have := i3 i (by simpa using hi)
            rw [List.take_succ_cons, cnt_snoc, ← Nat.add_assoc, List.getD_cons_succ]
            exact this
        · exact i5 K2 k2 v2 B2 (by omega) (fun hh => hn ⟨hh.1, by omega⟩) (r4 K2 k2 v2 B2 hK2 (fun hh => hn ⟨hh.1, by omega⟩) hh)
omit [Dr] in
theorem RepS1.keep {K j j' : Nat} {G' : Gh} {v : Value} {A : AV} (h : RepS1 w G K j v A) (hb : ∀ l, A ≠ .bx l) (hj : j + (rowsOf1 A).length ≤ j') (hok : G'.ok = G.ok) (hk : ∀ i v B, i < j' → RepC w G K [] i v B → RepC w G' K [] i v B) : RepS1 w G' K j v A := by
  have hr : ∀ {v B}, RepR w G.ok v B → RepR w G'.ok v B := fun hh => hh.mono (fun b o hh => by rw [hok]; exact hh) (fun _ _ _ => SameAt.refl)
  cases A
  case row E c l => exact hk _ _ _ (by simp [rowsOf1] at hj; omega) h
  case bx l => exact absurd rfl (hb l)
  case agg l =>
    obtain ⟨vs, h1, h2, h3⟩ := h
    refine ⟨vs, h1, h2, fun i hi => ?_⟩
    by_cases hp : (l.getD i .unk).pure = true
    · exact .pure hp (hr ((h3 i hi).pureInv hp))
    · obtain ⟨f1, _⟩ := filter_lt (fun A => !A.pure) hi (by simpa using hp)
      refine hk _ _ _ ?_ (h3 i hi)
      simp only [rowsOf1] at hj
      omega
  all_goals exact hr h
/-- All results. -/
theorem resGo_rep {K : Nat} : ∀ {Vs : List (AV × Option (Nat × Nat))} {m : List AV} {e e1 : Env} {G : Gh} {j : Nat} {vals : Nat → Value}, Rel w0 L ok0 e a w G → e.objs.length ≤ K → (∀ i, i < Vs.length → RepT w G e (vals i) (Vs.getD i (.unk, none)).1) → resGo e Vs = some (m, e1) →
    m.length = Vs.length ∧ (∀ i, i < m.length → ∀ l, m.getD i .unk ≠ .bx l) ∧ ∃ G1, Rel w0 L ok0 e1 a w G1 ∧ e1.objs.length = e.objs.length ∧ (∀ i, i < m.length → RepS1 w G1 K (j + (rowsOf (.tup (m.take i))).length) (vals i) (m.getD i .unk)) ∧
      (∀ k2 v2 B2, k2 < j → RepC w G K [] k2 v2 B2 → RepC w G1 K [] k2 v2 B2) ∧ G1.ok = G.ok
  | [], m, e, e1, G, j, vals, h, hK, hl, ht => by
    simp only [resGo, Option.some.injEq, Prod.mk.injEq] at ht
    obtain ⟨rfl, rfl⟩ := ht
    exact ⟨rfl, fun i hi => absurd hi (by simp), G, h, rfl, fun i hi => absurd hi (by simp), fun _ _ _ _ hh => hh, rfl⟩
  | (A, fx) :: Vs, m, e, e1, G, j, vals, h, hK, hl, ht => by
    have h0 : RepT w G e (vals 0) A := hl 0 (by simp)
    have step : ∀ (B : AV) (e2 : Env) (G2 : Gh) (m2 : List AV), (∀ l, B ≠ .bx l) → Rel w0 L ok0 e2 a w G2 → e2.objs.length = e.objs.length → RepS1 w G2 K j (vals 0) B → (∀ v A, RepT0 w G e v A → RepT0 w G2 e2 v A) → (∀ k2 v2 B2, k2 < j → RepC w G K [] k2 v2 B2 → RepC w G2 K [] k2 v2 B2) → G2.ok = G.ok →
        resGo e2 Vs = some (m2, e1) → (B :: m2).length = ((A, fx) :: Vs).length ∧ (∀ i, i < (B :: m2).length → ∀ l, (B :: m2).getD i .unk ≠ .bx l) ∧ ∃ G1, Rel w0 L ok0 e1 a w G1 ∧ e1.objs.length = e.objs.length ∧ (∀ i, i < (B :: m2).length → RepS1 w G1 K (j + (rowsOf (.tup ((B :: m2).take i))).length) (vals i) ((B :: m2).getD i .unk)) ∧
          (∀ k2 v2 B2, k2 < j → RepC w G K [] k2 v2 B2 → RepC w G1 K [] k2 v2 B2) ∧ G1.ok = G.ok := by
      intro B e2 G2 m2 hB r1 r2 r3 r4 r5 r6 hgo
      obtain ⟨i1, i0, G3, i2, i3, i4, i5, i6⟩ := resGo_rep (K := K) (j := j + (rowsOf1 B).length) (vals := fun i => vals (i + 1)) r1 (show e2.objs.length ≤ K by omega) (fun i hi => RepT.of0 r4 (by have := hl (i + 1) (by simpa using hi); simpa using this)) hgo
      refine ⟨by simp [i1], fun i hi l => ?_, G3, i2, by omega, fun i hi => ?_, fun k2 v2 B2 hk hh => i5 k2 v2 B2 (by omega) (r5 k2 v2 B2 hk hh), i6.trans r6⟩
      · cases i with
        | zero => exact hB l
        | succ i => rw [List.getD_cons_succ]; exact i0 i (by simpa using hi) l
      · cases i with
        | zero =>
          show RepS1 w G3 K (j + 0) (vals 0) B
          exact r3.keep hB (Nat.le_refl _) i6 (fun i v B hi hh => i5 i v B hi hh)
        | succ i =>
          have := i4 i (by simpa using hi)
          rw [List.take_succ_cons, rowsOf_cons, List.length_append, ← Nat.add_assoc, List.getD_cons_succ]
          exact this
    by_cases hagg : ∃ l, A = .agg l
    · obtain ⟨l, rfl⟩ := hagg
      simp only [resGo] at ht
      cases h1 : e.takes l with
      | none => simp [h1] at ht
      | some r =>
        obtain ⟨ps, e2⟩ := r
        simp only [h1] at ht
        cases h2 : resGo e2 Vs with
        | none => simp [h2] at ht
        | some r2 =>
          obtain ⟨m2, e3⟩ := r2
          simp only [h2, Option.some.injEq, Prod.mk.injEq] at ht
          obtain ⟨rfl, rfl⟩ := ht
          obtain ⟨vs, v1, v2, v3⟩ := h0
          obtain ⟨t1, G2, t2, t3, t4, t5, t6⟩ := takesC (k0 := j) (vals := fun i => vs.getD i undef) h hK v3 h1
          refine step (.agg ps) e2 G2 m2 (fun l hh => by cases hh) t2 t4.len ⟨vs, v1, by omega, t3⟩ t4.t (fun k2 v2 B2 hk hh => t5 K k2 v2 B2 hK (by omega) hh) t6 h2
    · have hA : ∀ l, A ≠ .agg l := fun l hh => hagg ⟨l, hh⟩
      have hgo : ∃ B e2 m2, e.take1 A = some (B, e2) ∧ resGo e2 Vs = some (m2, e1) ∧ m = nilFix fx B :: m2 := by
        have ht' : (match e.take1 A with
          | some (B, e1) => match resGo e1 Vs with
            | some (m, e2) => some (nilFix fx B :: m, e2)
            | none => none
          | none => none) = some (m, e1) := by
          cases A <;> first | exact ht | exact absurd rfl (hA _)
        cases h1 : e.take1 A with
        | none => simp [h1] at ht'
        | some r =>
          obtain ⟨B, e2⟩ := r
          simp only [h1] at ht'
          cases h2 : resGo e2 Vs with
          | none => simp [h2] at ht'
          | some r2 =>
            obtain ⟨m2, e3⟩ := r2
            simp only [h2, Option.some.injEq, Prod.mk.injEq] at ht'
            obtain ⟨rfl, rfl⟩ := ht'
            exact ⟨B, e2, m2, rfl, h2, rfl⟩
      obtain ⟨B, e2, m2, h1, h2, rfl⟩ := hgo
      have h0' : RepT0 w G e (vals 0) A := by
        cases A <;> first | exact h0 | (simp [Env.take1, AV.pure] at h1; done) | exact absurd rfl (hA _)
      obtain ⟨G2, r1, r2, r3, r4, r5⟩ := take_rep h (kk := j) hK h0' h1
      have hB : (∃ E c l, B = .row E c l) ∨ B.pure = true := by
        cases A
        case ref d g v q jj =>
          simp only [Env.take1] at h1
          cases hc : e.cellR d g v q jj with
          | none => simp [hc] at h1
          | some C =>
            cases C <;> simp only [hc] at h1 <;> try (cases h1; done)
            · cases h1; exact .inr rfl
            · rename_i E c l
              cases ht' : e.turn d q none (fun m => m.set jj .unk) with
              | none => simp [ht'] at h1
              | some e3 => simp only [ht', Option.some.injEq, Prod.mk.injEq] at h1; exact .inl ⟨E, c, l, h1.1.symm⟩
        all_goals
          simp only [Env.take1] at h1
          split at h1
          · rename_i hp; cases h1; exact .inr hp
          · cases h1
      have keep : ∀ k2 v2 B2, k2 < j → RepC w G K [] k2 v2 B2 → RepC w G2 K [] k2 v2 B2 := fun k2 v2 B2 hk hh => r4 K k2 v2 B2 hK (by omega) hh
      by_cases hfix : ∃ E c, fx = some (E, c) ∧ B = .nil
      · obtain ⟨E, c, rfl, rfl⟩ := hfix
        -- a header that leads nowhere
        have hv : vals 0 = .slice none 0 0 := by
          have := r2.pureInv rfl
          generalize vals 0 = v at this
          cases this; rfl
        let G3 : Gh := { G2 with h := fun d1 q1 j1 => if d1 = K ∧ q1 = [] ∧ j1 = j then .slice none 0 0 else G2.h d1 q1 j1 }
        have hlen := r3.len
        have hs : StaysO w w G2 G3 e2.objs.length K := ⟨fun _ _ hh => hh, fun _ _ _ => SameAt.refl, fun d1 q1 j1 hd1 hn => ⟨by simp only [G3]; rw [if_neg (fun hh => hn hh.1)], fun _ hb => ⟨hb, rfl⟩⟩, fun _ _ _ _ hb => ⟨hb, rfl⟩, fun _ _ _ => rfl, fun _ _ _ _ => rfl⟩
        obtain ⟨s1, s2⟩ := r1.stay hs (by omega) r1.fr r1.okb r1.ok0 r1.own
        refine step (.row E c []) e2 G3 m2 (fun l hh => by cases hh) s1 hlen ?_ (fun v A hh => s2.t v A (r3.t v A hh)) (fun k2 v2 B2 hk hh => ?_) r5 h2
        · rw [hv]
          exact .row0 (by simp only [G3]; rw [if_pos ⟨trivial, trivial, trivial⟩])
        · refine (keep k2 v2 B2 hk hh).mono (G := G2) (G' := G3) (fun _ _ hh => hh) (fun _ _ _ => SameAt.refl) (fun q1 j1 hu => ⟨?_, fun _ hb => ⟨hb, rfl⟩⟩)
          simp only [G3]
          rw [if_neg (fun hh2 => ?_)]
          obtain ⟨_, rfl, rfl⟩ := hh2
          rcases hu with ⟨_, hu⟩ | ⟨s, c', i', hu⟩
          · omega
          · have := congrArg List.length hu; simp at this
      · have hfx : nilFix fx B = B := by
          unfold nilFix
          split
          · exact absurd ⟨_, _, rfl, rfl⟩ hfix
          · rfl
        rw [hfx]
        rcases hB with ⟨E, c, l, rfl⟩ | hp
        · exact step _ e2 G2 m2 (fun l hh => by cases hh) r1 r3.len r2 r3.t keep r5 h2
        · have hr := r2.pureInv hp
          refine step B e2 G2 m2 (fun l hh => by subst hh; cases hp) r1 r3.len ?_ r3.t keep r5 h2
          cases B <;> first | exact hr | (cases hp; done)
/-! ### Labels, at the end -/
def Gh.fin (G : Gh) (np D : Nat) : Gh where
  ok := G.ok
  own := fun b => match G.own b with
    | some (d, q, x) => if d < np then some (d, q, x) else if d = D then some (np, q, x) else none
    | none => none
  bl := fun d => if d < np then G.bl d else G.bl D
  vs := G.vs
  h := fun d q j => if d < np then G.h d q j else G.h D q j
omit [Dr] in
theorem RepC.finK {np D k : Nat} (hk : k < np) {q : Path} {j : Nat} {v : Value} {A : AV} (h : RepC w G k q j v A) : RepC w (G.fin np D) k q j v A :=
  h.mono (G := G) (G' := G.fin np D) (fun _ _ hh => hh) (fun _ _ _ => SameAt.refl) (fun q1 j1 _ => ⟨by simp only [Gh.fin, if_pos hk], fun b hb => ⟨by simp only [Gh.fin, hb, if_pos hk], rfl⟩⟩)
omit [Dr] in
theorem RepC.finD {np D : Nat} (hD : np ≤ D) {q : Path} {j : Nat} {v : Value} {A : AV} (h : RepC w G D q j v A) : RepC w (G.fin np D) np q j v A := by
  have h1 : ∀ q1 j1, (G.fin np D).h np q1 j1 = G.h D q1 j1 ∧ ∀ b, G.own b = some (D, q1, some j1) → (G.fin np D).own b = some (np, q1, some j1) := fun q1 j1 =>
    ⟨by simp only [Gh.fin]; rw [if_neg (Nat.lt_irrefl _)], fun b hb => by simp only [Gh.fin, hb]; rw [if_neg (by omega)]; simp⟩
  exact RepC.move (G := G) (G' := G.fin np D) (d := D) (d' := np) (q' := q) (j' := j) (fun _ _ hh => hh) h (h1 q j) (fun s c i k => h1 _ _)
omit [Dr] in
theorem RepS1.fin {np D j : Nat} (hD : np ≤ D) {v : Value} {A : AV} (h : RepS1 w G D j v A) : RepS1 w (G.fin np D) np j v A := by
  cases A
  case row E c l => exact RepC.finD hD h
  case bx l =>
    obtain ⟨h1, h2, vs, T, h3, h4, h5⟩ := h
    have hbl : (G.fin np D).bl np = G.bl D := by simp only [Gh.fin]; rw [if_neg (Nat.lt_irrefl _)]
    refine ⟨by rw [hbl]; exact h1, by rw [hbl]; simp only [Gh.fin, h2]; rw [if_neg (by omega)]; simp, vs, T, by rw [hbl]; exact h3, h4, fun i hi => RepC.finD hD (h5 i hi)⟩
  case agg l =>
    obtain ⟨vs, h1, h2, h3⟩ := h
    exact ⟨vs, h1, h2, fun i hi => RepC.finD hD (h3 i hi)⟩
  all_goals exact h
omit [Dr] in
theorem tupOf_rep {D : Nat} {m : List AV} {vs : Array Value} (hl : vs.size = m.length) (h : ∀ i, i < m.length → RepS1 w G D (rowsOf (.tup (m.take i))).length (vs.getD i undef) (m.getD i .unk)) (hnt : ∀ i, i < m.length → ∀ l, m.getD i .unk ≠ .tup l) :
    RepS w G D (if hs : vs.size = 1 then vs[0] else .tuple vs) (tupOf m) := by
  cases m with
  | nil =>
    rw [dif_neg (by simp [hl])]
    exact ⟨vs, rfl, hl, h⟩
  | cons A m =>
    cases m with
    | nil =>
      have hs : vs.size = 1 := by simpa using hl
      rw [dif_pos hs]
      have h0 := h 0 (by simp)
      have e0 : (rowsOf (.tup (List.take 0 [A]))).length = 0 := rfl
      rw [e0] at h0
      have e1 : vs.getD 0 undef = vs[0] := by rw [Array.getD_eq_getD_getElem?, Array.getElem?_eq_getElem]; rfl
      rw [e1] at h0
      exact RepS.ofOne (fun l hh => hnt 0 (by simp) l hh) h0
    | cons B m =>
      rw [dif_neg (by simp at hl; omega)]
      exact ⟨vs, rfl, hl, h⟩
/-! ### Results, run -/
def resRun (tmps : Array Value) : ResultVar → Sem Value
  | .tmp t => pure (tmps.getD t undef)
  | .cell a t => do loadVar t (← asAddr (tmps.getD a undef))
omit [Dr] in
theorem listM_run {g : ResultVar → Sem Value} {w : World} {v : ResultVar → Value} : ∀ (rs : List ResultVar), (∀ r ∈ rs, (g r).run P w = .ok (v r) w) → (rs.mapM g).run P w = .ok (rs.map v) w
  | [], _ => rfl
  | r :: rs, h => by
    rw [List.mapM_cons]
    simp only [Sem.run_bind, h r (by simp), Result.andThen_ok, listM_run rs (fun q hq => h q (by simp [hq])), Sem.run_pure]
    rfl
omit [Dr] in
theorem results_run {fn : Func} {tmps : Array Value} {w : World} {v : ResultVar → Value} (h : ∀ r ∈ fn.results.toList, (resRun tmps r).run P w = .ok (v r) w) :
    (Go.results fn tmps).run P w = .ok (if hs : (fn.results.toList.map v).toArray.size = 1 then (fn.results.toList.map v).toArray[0] else .tuple (fn.results.toList.map v).toArray) w := by
  have h1 : Go.results fn tmps = (do let vs ← fn.results.mapM (resRun tmps); pure (if hh : vs.size = 1 then vs[0] else .tuple vs)) := by
    unfold Go.results
    congr 1
  rw [h1, Array.mapM_eq_mapM_toList]
  simp only [Sem.run_bind, map_eq_pure_bind, bind_assoc, pure_bind, listM_run _ h, Result.andThen_ok, Sem.run_pure]
theorem tmps_rep (h : Rel w0 L ok0 e a w G) (t : Nat) : RepT w G e (a.tmps.getD t undef) (e.tmps.getD t .unk) := by
  rcases Nat.lt_or_ge t e.tmps.length with ht | ht
  · exact h.tmps t ht
  · rw [List.getD_eq_getElem?_getD, List.getElem?_eq_none ht]; exact RepR.unk _
/-- What a load gives. -/
theorem load_rep (h : Rel w0 L ok0 e a w G) {x : Nat} {t : TypeId} {d : TypeDesc} {n : Option Nat} {A : AV} (hd : P.underlying t = some d) (hn : (n = none ∧ (∀ fs, d ≠ .struct fs) ∧ ∀ n el, d ≠ .array n el) ∨ (∃ k, n = some k ∧ sizeOf? P t = some k ∧ ((∃ fs, d = .struct fs) ∨ ∃ n el, d = .array n el)))
    (he : act e (.ld n (.t x)) = some A) : ∃ v, (resRun a.tmps (.cell x t)).run P w = .ok v w ∧ RepT w G e v A := by
  have hx : compX (.tmp x) = some (.t x) := rfl
  let o : Oper := { (default : Oper) with op := .load t (.tmp x) }
  have hS : SimV P o a w G e A := by
    rcases hn with ⟨rfl, h1, h2⟩ | ⟨k, rfl, h1, h2⟩
    · exact sim_ld1 h hx rfl hd h1 h2 he
    · exact sim_ldn h hx rfl hd h2 h1 he
  obtain ⟨v, hrun, hv⟩ := hS
  refine ⟨v, ?_, hv⟩
  -- it is an address
  have hadr : ∃ ad, a.tmps.getD x undef = .pointer (some ad) := by
    have ht := tmps_rep h x
    cases n <;> simp only [act] at he
    all_goals
      cases hA : e.get (.t x) <;> simp only [hA] at he <;> try (cases he; done)
      all_goals (have hA' : e.tmps.getD x .unk = _ := hA; rw [hA'] at ht)
      · obtain ⟨b, oo, u, hb, _⟩ := inv_el ht
        exact ⟨_, hb⟩
      · obtain ⟨_, b, oo, hb, _⟩ := ht
        exact ⟨_, hb⟩
  obtain ⟨ad, had⟩ := hadr
  simp only [execOp, o, Instr.loadAt, Act.eval, had, Instr.sureAddr, Sem.run_bind, Sem.run_pure, Result.andThen_ok] at hrun
  simp only [resRun, had, asAddr, pure_bind]
  cases hl : (loadVar t ad).run P w with
  | ok v' w' =>
    rw [hl] at hrun
    simp only [Result.andThen] at hrun
    injection hrun with h1 h2
    injection h1 with h1
    rw [h1, h2]
  | _ => rw [hl] at hrun; simp [Result.andThen] at hrun
theorem resV_rep (h : Rel w0 L ok0 e a w G) {ty : Option TypeId} {r : ResultVar} {rv : RV} (hc : compRV P ty r = some rv) {A : AV} (hr : resV e rv = some A) : ∃ v, (resRun a.tmps r).run P w = .ok v w ∧ RepT w G e v A := by
  cases r with
  | tmp t =>
    have : ∃ B : Nat, rv = .tmp t ∨ ∃ E c, rv = .tsl t E c := by
      simp only [compRV] at hc
      split at hc
      · obtain ⟨c, _, rfl⟩ := omap hc
        exact ⟨0, .inr ⟨_, _, rfl⟩⟩
      · cases hc; exact ⟨0, .inl rfl⟩
    refine ⟨_, rfl, ?_⟩
    rcases this with ⟨_, rfl | ⟨E, c, rfl⟩⟩ <;> (simp only [resV, Option.some.injEq] at hr; subst hr; exact tmps_rep h t)
  | cell x t =>
    simp only [compRV] at hc
    cases h1 : P.underlying t with
    | none => simp [h1] at hc
    | some d =>
      cases h2 : sizeOf? P t with
      | none => simp [h1, h2] at hc
      | some n =>
        simp only [h1, h2] at hc
        cases d <;> simp only at hc
        case struct fs =>
          cases hc
          exact load_rep h h1 (.inr ⟨n, rfl, h2, .inl ⟨_, rfl⟩⟩) hr
        case array k el =>
          cases hc
          exact load_rep h h1 (.inr ⟨n, rfl, h2, .inr ⟨_, _, rfl⟩⟩) hr
        case slice E =>
          obtain ⟨c, _, rfl⟩ := omap hc
          exact load_rep h h1 (.inl ⟨rfl, fun _ hh => (by cases hh), fun _ _ hh => (by cases hh)⟩) hr
        all_goals
          cases hc
          exact load_rep h h1 (.inl ⟨rfl, fun _ hh => (by cases hh), fun _ _ hh => (by cases hh)⟩) hr
theorem resVs_rep (h : Rel w0 L ok0 e a w G) : ∀ {ts : List TypeId} {rs : List ResultVar} {rvs : List RV} {Vs : List (AV × Option (Nat × Nat))}, compRVs P ts rs = some rvs → resVs e rvs = some Vs →
    Vs.length = rs.length ∧ ∃ vs : List Value, vs.length = rs.length ∧ (rs.mapM (resRun a.tmps)).run P w = .ok vs w ∧ ∀ i, i < Vs.length → RepT w G e (vs.getD i undef) (Vs.getD i (.unk, none)).1
  | ts, [], rvs, Vs, hc, hr => by
    simp only [compRVs, Option.some.injEq] at hc
    subst hc
    simp only [resVs, Option.some.injEq] at hr
    subst hr
    exact ⟨rfl, [], rfl, rfl, fun i hi => absurd hi (by simp)⟩
  | ts, r :: rs, rvs, Vs, hc, hr => by
    simp only [compRVs] at hc
    cases h1 : compRV P ts.head? r with
    | none => simp [h1] at hc
    | some x =>
      cases h2 : compRVs P ts.tail rs with
      | none => simp [h1, h2] at hc
      | some l =>
        simp only [h1, h2, Option.some.injEq] at hc
        subst hc
        simp only [resVs] at hr
        cases h3 : resV e x with
        | none => simp [h3] at hr
        | some A =>
          cases h4 : resVs e l with
          | none => simp [h3, h4] at hr
          | some Vs' =>
            simp only [h3, h4, Option.some.injEq] at hr
            subst hr
            obtain ⟨v, v1, v2⟩ := resV_rep h h1 h3
            obtain ⟨i1, vs, i2, i3, i4⟩ := resVs_rep h h2 h4
            refine ⟨by simp [i1], v :: vs, by simp [i2], ?_, fun i hi => ?_⟩
            · rw [List.mapM_cons]
              simp only [Sem.run_bind, v1, Result.andThen_ok, i3, Sem.run_pure]
            · cases i with
              | zero => exact v2
              | succ i => simpa using i4 i (by simpa using hi)
theorem bxGo_rep (h : Rel w0 L ok0 e a w G) {d g v : Nat} {l : List AV} (hl : e.cellsP d g v [] = some l) : ∀ {Vs : List (AV × Option (Nat × Nat))} {m : List AV} {vals : Nat → Value}, bxGo d g l Vs = some m → (∀ i, i < Vs.length → RepT w G e (vals i) (Vs.getD i (.unk, none)).1) →
    m.length = Vs.length ∧ (∀ i, i < m.length → ∀ l, m.getD i .unk ≠ .tup l) ∧ (rowsOf (.tup m)) = [] ∧ ∀ i, i < m.length → ∀ j, RepS1 w G d j (vals i) (m.getD i .unk)
  | [], m, vals, hb, hr => by
    simp only [bxGo, Option.some.injEq] at hb
    subst hb
    exact ⟨rfl, fun i hi => absurd hi (by simp), rfl, fun i hi => absurd hi (by simp)⟩
  | (A, fx) :: Vs, m, vals, hb, hr => by
    simp only [bxGo] at hb
    cases h1 : bxGo d g l Vs with
    | none => simp [h1] at hb
    | some m' =>
      simp only [h1] at hb
      have h0 : RepT w G e (vals 0) A := hr 0 (by simp)
      obtain ⟨i1, i0, i2, i3⟩ := bxGo_rep h hl (vals := fun i => vals (i + 1)) h1 (fun i hi => by have := hr (i + 1) (by simpa using hi); simpa using this)
      have fin : ∀ B, (∀ l, B ≠ .tup l) → rowsOf1 B = [] → (∀ j, RepS1 w G d j (vals 0) B) → (B :: m').length = ((A, fx) :: Vs).length ∧ (∀ i, i < (B :: m').length → ∀ l, (B :: m').getD i .unk ≠ .tup l) ∧ (rowsOf (.tup (B :: m'))) = [] ∧ ∀ i, i < (B :: m').length → ∀ j, RepS1 w G d j (vals i) ((B :: m').getD i .unk) := fun B b1 b2 b3 => by
        refine ⟨by simp [i1], fun i hi l => ?_, by rw [rowsOf_cons, b2, i2]; rfl, fun i hi j => ?_⟩
        · cases i with
          | zero => exact b1 l
          | succ i => rw [List.getD_cons_succ]; exact i0 i (by simpa using hi) l
        · cases i with
          | zero => exact b3 j
          | succ i => rw [List.getD_cons_succ]; exact i3 i (by simpa using hi) j
      by_cases hp : ∃ d' g' v' q j, A = .ptr d' g' v' q j
      · obtain ⟨d', g', v', q, j, rfl⟩ := hp
        simp only at hb
        by_cases hq : d' = d ∧ g' = g ∧ q = [] ∧ j = 0
        case neg => rw [if_neg hq] at hb; cases hb
        rw [if_pos hq] at hb
        obtain ⟨rfl, rfl, rfl, rfl⟩ := hq
        cases hb
        obtain ⟨o, o1, o2, o3⟩ := Env.cellsP_some.1 hl
        have hk : o.k = .box l := by
          rcases o3 with ⟨_, o4⟩ | ⟨s, q', o4, _⟩
          · exact o4
          · cases o4
        have hl' : e.cellsP d' g' v' [] = some l := Env.cellsP_some.2 ⟨o, o1, o2, .inl ⟨rfl, hk⟩⟩
        obtain ⟨_, b, oo, r2, r3⟩ := h0
        obtain ⟨c1, c2⟩ := r3 l hl'
        have hO := h.objs d' (lt_obj o1)
        rw [Env.kind_of o1, hk] at hO
        exact fin (.bx l) (fun l hh => by cases hh) rfl (fun j => ⟨by rw [r2, c1, c2]; rfl, hO⟩)
      · have hb' : (if A.pure = true then some (A :: m') else none) = some m := by
          cases A <;> first | exact hb | exact absurd ⟨_, _, _, _, _, rfl⟩ hp
        by_cases hpure : A.pure = true
        case neg => rw [if_neg hpure] at hb'; cases hb'
        rw [if_pos hpure] at hb'
        cases hb'
        have hR : RepR w G.ok (vals 0) A := by
          cases A <;> first | exact h0 | (cases hpure; done)
        exact fin A (fun l hh => by subst hh; cases hpure) (by cases A <;> first | rfl | (cases hpure; done)) (fun j => by cases A <;> first | exact hR | (cases hpure; done))
/-- What a function hands out. -/
theorem resultsA_rep (h : Rel w0 L ok0 e a w G) {fn : Func} {np : Nat} {rs : List RV} (hc : compRVs P fn.resultTypes.toList fn.results.toList = some rs) {A : AV} (hr : resultsA np rs e = some (A, e1)) :
    ∃ v G1 D, (Go.results fn a.tmps).run P w = .ok v w ∧ Rel w0 L ok0 e1 a w G1 ∧ np ≤ D ∧ RepS w G1 D v A := by
  unfold resultsA at hr
  cases hV : resVs e rs with
  | none => simp [hV] at hr
  | some Vs =>
    simp only [hV] at hr
    obtain ⟨l1, vs, l2, l3, l4⟩ := resVs_rep h hc hV
    have hrun : (Go.results fn a.tmps).run P w = .ok (if hs : vs.toArray.size = 1 then vs.toArray[0] else .tuple vs.toArray) w := by
      have h1 : Go.results fn a.tmps = (do let vs ← fn.results.mapM (resRun a.tmps); pure (if hh : vs.size = 1 then vs[0] else .tuple vs)) := by
        unfold Go.results
        congr 1
      rw [h1, Array.mapM_eq_mapM_toList]
      simp only [Sem.run_bind, map_eq_pure_bind, bind_assoc, pure_bind, l3, Result.andThen_ok, Sem.run_pure]
    have l4' : ∀ i, i < Vs.length → RepT w G e (vs.toArray.getD i undef) (Vs.getD i (.unk, none)).1 := fun i hi => by
      have e1 : vs.toArray.getD i undef = vs.getD i undef := by simp [Array.getD_eq_getD_getElem?, List.getD_eq_getElem?_getD]
      rw [e1]; exact l4 i hi
    have go : ∀ (m : List AV), (match resGo e Vs with
        | some (m, e1) => some (tupOf m, e1)
        | none => none) = some (A, e1) → ∃ v G1 D, (Go.results fn a.tmps).run P w = .ok v w ∧ Rel w0 L ok0 e1 a w G1 ∧ np ≤ D ∧ RepS w G1 D v A := by
      intro _ hr
      cases hgo : resGo e Vs with
      | none => simp [hgo] at hr
      | some q =>
        obtain ⟨m, e2⟩ := q
        simp only [hgo, Option.some.injEq, Prod.mk.injEq] at hr
        obtain ⟨rfl, rfl⟩ := hr
        obtain ⟨g1, g2, G1, g3, g4, g5, _⟩ := resGo_rep (K := max e.objs.length np) (j := 0) (vals := fun i => vs.toArray.getD i undef) h (Nat.le_max_left _ _) l4' hgo
        refine ⟨_, G1, max e.objs.length np, hrun, g3, Nat.le_max_right _ _, tupOf_rep (by simp; omega) (fun i hi => by have := g5 i hi; rwa [Nat.zero_add] at this) (fun i hi l hh => ?_)⟩
        have := g5 i hi
        rw [hh] at this
        have h7 : RepR w G1.ok (vs.toArray.getD i undef) (.tup l) := this
        generalize vs.toArray.getD i undef = v7 at h7
        cases h7
    cases hf : Vs.find? (fun p => isPtr p.1) with
    | none => rw [hf] at hr; exact go [] hr
    | some p =>
      obtain ⟨B, fx⟩ := p
      have hB := List.find?_some hf
      simp only at hB
      cases B <;> simp [isPtr] at hB
      rename_i d g v q j
      rw [hf] at hr
      simp only at hr
      by_cases hd : np ≤ d
      case neg => rw [if_neg hd] at hr; cases hr
      rw [if_pos hd] at hr
      cases hcp : e.cellsP d g v [] with
      | none => simp [hcp] at hr
      | some l =>
        simp only [hcp] at hr
        cases hb : bxGo d g l Vs with
        | none => simp [hb] at hr
        | some m =>
          simp only [hb, Option.some.injEq, Prod.mk.injEq] at hr
          obtain ⟨rfl, rfl⟩ := hr
          obtain ⟨g1, g2, g3, g4⟩ := bxGo_rep h hcp (vals := fun i => vs.toArray.getD i undef) hb l4'
          exact ⟨_, G, d, hrun, h, hd, tupOf_rep (by simp; omega) (fun i hi => g4 i hi _) g2⟩
end
end Go.Nv
/- BY VALUE, with trees. Part 46: a function's code keeps its contract. -/
namespace Go.Nv
variable [Dr]
open Go.RowKit
omit [Dr] in
theorem startT_len : ∀ (as : List AV) (k : Nat), (startT k as).length = as.length
  | [], _ => rfl
  | A :: as, k => by simp [startT, startT_len as]
omit [Dr] in
theorem startT_get : ∀ (as : List AV) (k j : Nat), j < as.length → (startT k as).getD j .unk = startT1 (k + j) (as.getD j .unk)
  | [], _, _, h => by simp at h
  | A :: as, k, 0, h => rfl
  | A :: as, k, j + 1, h => by
    have := startT_get as (k + 1) j (by simpa using h)
    simp only [startT, List.getD_cons_succ, this]
    rw [show k + 1 + j = k + (j + 1) by omega]
omit [Dr] in
theorem startO_get : ∀ (as : List AV) (j : Nat), (startO as)[j]? = (as[j]?).map startO1
  | [], j => by simp [startO]
  | A :: as, 0 => by simp [startO]
  | A :: as, j + 1 => by simp [startO, startO_get as j]
omit [Dr] in
theorem startO_len (as : List AV) : (startO as).length = as.length := by
  induction as with
  | nil => rfl
  | cons A as ih => simp [startO, ih]
omit [Dr] in
theorem startOk_spec {rp : List Nat} : ∀ {as : List AV} {k : Nat}, startOk rp k as = true → ∀ j, j < as.length → (as.getD j .unk).isRow = true → rp.contains (k + j) = true
  | [], k, _, j, hj, _ => by simp at hj
  | A :: as, k, h, 0, _, hr => by
    simp only [startOk, Bool.and_eq_true, Bool.or_eq_true, Bool.not_eq_true'] at h
    have hr' : A.isRow = true := hr
    rcases h.1 with h1 | h1
    · rw [hr'] at h1; cases h1
    · exact h1
  | A :: as, k, h, j + 1, hj, hr => by
    simp only [startOk, Bool.and_eq_true] at h
    have := startOk_spec h.2 j (by simpa using hj) (by simpa using hr)
    rw [show k + (j + 1) = k + 1 + j by omega]; exact this
def pinsOf (as : List AV) (vs : List Value) : List (Value × AV) := (List.range as.length).filterMap fun k => if isLent (as.getD k .unk) = true then some (vs.getD k undef, startT1 k (as.getD k .unk)) else none
omit [Dr] in
theorem mem_pinsOf {as : List AV} {vs : List Value} {p : Value × AV} : p ∈ pinsOf as vs ↔ ∃ k, k < as.length ∧ isLent (as.getD k .unk) = true ∧ p = (vs.getD k undef, startT1 k (as.getD k .unk)) := by
  unfold pinsOf
  rw [List.mem_filterMap]
  constructor
  · rintro ⟨k, hk, h⟩
    split at h
    · rename_i hl
      cases h
      exact ⟨k, List.mem_range.1 hk, hl, rfl⟩
    · cases h
  · rintro ⟨k, hk, hl, rfl⟩
    exact ⟨k, List.mem_range.2 hk, by rw [if_pos hl]⟩
section
variable {P : Program} {w : World} {G : Gh}
theorem Rel.start {as : List AV} {vs : List Value} (f0 : F) (hok : ∀ b o, G.ok b o → b < w.heap.size) (hown : ∀ b p, G.own b = some p → b < w.heap.size ∧ ∀ o, ¬ G.ok b o) (hl : vs.length = as.length) (hnt : as.length ≤ f0.nt)
    (hr : ∀ j, j < as.length → RepA w G j (vs.getD j undef) (as.getD j .unk)) :
    Rel w ⟨fun b => ∃ p, G.own b = some p, pinsOf as vs⟩ G.ok (f0.start as) { tmps := vs.toArray ++ Array.replicate (f0.nt - vs.toArray.size) undef, defers := [] } w { G with vs := fun d _ => vs.getD d undef } := by
  let G0 : Gh := { G with vs := fun d _ => vs.getD d undef }
  show Rel w _ G.ok (f0.start as) _ w G0
  have hG0 : ∀ {d q j v A}, RepC w G d q j v A → RepC w G0 d q j v A := fun hh => hh.mono (G := G) (G' := G0) (fun _ _ h => h) (fun _ _ _ => SameAt.refl) (fun _ _ _ => ⟨rfl, fun _ hb => ⟨hb, rfl⟩⟩)
  have hlenT : (f0.start as).tmps.length = f0.nt := by simp [F.start, startT_len]; omega
  have hlenO : (f0.start as).objs.length = f0.nt := by simp [F.start, startO_len]; omega
  have hobj : ∀ d, d < as.length → (f0.start as).objs[d]? = some (startO1 (as.getD d .unk)) := fun d hd => by
    simp only [F.start]
    rw [List.getElem?_append_left (by rw [startO_len]; exact hd), startO_get, List.getElem?_eq_getElem hd, List.getD_eq_getElem?_getD, List.getElem?_eq_getElem hd]
    rfl
  have hobj' : ∀ d o, ¬ d < as.length → (f0.start as).objs[d]? = some o → o = ⟨0, [], .dead⟩ := fun d o hd ho => by
    simp only [F.start] at ho
    rw [List.getElem?_append_right (by rw [startO_len]; omega), List.getElem?_replicate] at ho
    split at ho
    · cases ho; rfl
    · cases ho
  have htmp : ∀ t, t < as.length → (f0.start as).tmps.getD t .unk = startT1 t (as.getD t .unk) := fun t ht => by
    have h1 := startT_get as 0 t ht
    rw [Nat.zero_add] at h1
    rw [← h1]
    simp only [F.start, List.getD_eq_getElem?_getD]
    rw [List.getElem?_append_left (by rw [startT_len]; exact ht)]
  have hval : ∀ t, t < as.length → (vs.toArray ++ Array.replicate (f0.nt - vs.toArray.size) undef).getD t undef = vs.getD t undef := fun t ht => by
    rw [Array.getD_eq_getD_getElem?, Array.getElem?_append_left (by simp; omega), List.getD_eq_getElem?_getD]
    simp
  have hname : ∀ t, t < as.length → RepT0 w G0 (f0.start as) (vs.getD t undef) (startT1 t (as.getD t .unk)) ∨ (isLent (as.getD t .unk) = false ∧ RepR w G.ok (vs.getD t undef) (as.getD t .unk)) := fun t ht => by
    have h0 := hr t ht
    have ho := hobj t ht
    revert h0 ho
    generalize as.getD t .unk = A
    intro h0 ho
    cases A
    case row E c l =>
      refine .inl ⟨⟨by rw [hlenO]; omega, by rw [Env.gen_of ho]; exact Nat.le_refl _, fun o _ => Nat.zero_le _⟩, fun E' c' l' _ => (show RepC w G t [] 0 _ (.row E c l) from h0).rowInv.1, fun l' hc => ?_, (show RepC w G t [] 0 _ (.row E c l) from h0).rowSlice⟩
      obtain ⟨o, l0, x1, _, _, x4, x5⟩ := Env.cellR_some.1 hc
      rw [ho] at x1; cases x1
      simp only [startO1, OK.cells, Option.some.injEq] at x4
      subst x4
      simp [cellAt, elemsAt] at x5
    case bx l =>
      obtain ⟨h1, h2⟩ := h0
      exact .inl ⟨⟨by rw [hlenO]; omega, by rw [Env.gen_of ho]; exact Nat.le_refl _⟩, _, _, h1, fun l' _ => ⟨rfl, rfl⟩⟩
    all_goals exact .inr ⟨rfl, h0⟩
  refine ⟨Frame.refl _ _, by simp [hlenT]; omega, fun t ht => ?_, rfl, hok, fun b o hb => hb, fun b o _ _ hb => hb, fun b p hp => ⟨(hown b p hp).1, .inr ⟨p, hp⟩, (hown b p hp).2⟩, fun d hd => ?_, fun d o l ho hl' => ?_, fun p hp => ?_⟩
  · rw [hlenT] at ht
    by_cases hta : t < as.length
    · show RepT w G0 _ ((vs.toArray ++ Array.replicate (f0.nt - vs.toArray.size) undef).getD t undef) _
      rw [htmp t hta, hval t hta]
      rcases hname t hta with h1 | ⟨h1, h2⟩
      · exact h1.toT
      · have : startT1 t (as.getD t .unk) = as.getD t .unk := by
          revert h1; generalize as.getD t .unk = A; intro h1
          cases A <;> first | rfl | (cases h1; done)
        rw [this]; exact RepR.toT (G := G0) h2
    · have e1 : (f0.start as).tmps.getD t .unk = .unk := by
        simp only [F.start, List.getD_eq_getElem?_getD]
        rw [List.getElem?_append_right (by rw [startT_len]; omega), List.getElem?_replicate]
        split <;> rfl
      rw [e1]; exact RepR.unk _
  · by_cases hda : d < as.length
    · have ho := hobj d hda
      rw [Env.kind_of ho]
      have h0 := hr d hda
      revert h0 ho
      generalize hA : as.getD d .unk = A
      intro ho h0
      cases A
      case row E c l =>
        intro j hj
        have : j = 0 := by simp [startO1] at hj; exact hj
        subst this
        exact hG0 h0
      case bx l =>
        obtain ⟨h1, h2, vs2, T, h3, h4, h5⟩ := h0
        exact ⟨h2, vs2, T, h3, h4, fun i hi => hG0 (h5 i hi)⟩
      all_goals trivial
    · rw [hlenO] at hd
      have hex : ∃ o, (f0.start as).objs[d]? = some o := ⟨_, List.getElem?_eq_getElem (by rw [hlenO]; exact hd)⟩
      obtain ⟨o, ho⟩ := hex
      rw [Env.kind_of ho, hobj' d o hda ho]; trivial
  · by_cases hda : d < as.length
    · rw [hobj d hda] at ho
      cases ho
      revert hl'
      generalize as.getD d .unk = A
      intro hl'
      cases A <;> simp only [startO1, OK.cells] at hl' <;> try (cases hl'; done)
      · cases hl'; rfl
      · cases hl'; exact List.length_replicate
    · rw [hobj' d o hda ho] at hl'; cases hl'
  · obtain ⟨k, hk, hlk, rfl⟩ := mem_pinsOf.1 hp
    rcases hname k hk with h1 | ⟨h1, _⟩
    · exact h1
    · rw [h1] at hlk; cases hlk
omit [Dr] in
theorem pinsOk_of {as : List AV} {vs : List Value} {np : Nat} {rp : List Nat} {blk : Nat → Prop} (hnp : as.length = np) (hs : startOk rp 0 as = true) : PinsOk np rp ⟨blk, pinsOf as vs⟩ := by
  intro p hp
  obtain ⟨k, hk, hlk, rfl⟩ := mem_pinsOf.1 hp
  refine ⟨k, by omega, ?_⟩
  have h1 := startOk_spec hs k hk
  revert hlk h1
  generalize as.getD k .unk = A
  intro hlk h1
  cases A <;> simp [isLent] at hlk
  · exact .inl ⟨rfl, by simpa using h1 rfl⟩
  · exact .inr rfl
variable {w0 : World} {L : Lend} {ok0 : Nat → Nat → Prop} {e : Env} {a : Act}
omit [Dr] in
theorem outsOf_spec : ∀ {as : List AV} {k : Nat} {outs : List AV}, outsOf e k as = some outs → outs.length = (lentNs as k).length ∧ ∀ i, i < outs.length → k ≤ (lentNs as k).getD i 0 ∧ (lentNs as k).getD i 0 - k < as.length ∧
    outOf e ((lentNs as k).getD i 0) (as.getD ((lentNs as k).getD i 0 - k) .unk) = some (outs.getD i .unk)
  | [], k, outs, h => by
    simp only [outsOf, Option.some.injEq] at h
    subst h
    exact ⟨rfl, fun i hi => absurd hi (by simp)⟩
  | A :: as, k, outs, h => by
    simp only [outsOf] at h
    by_cases hl : isLent A = true
    · rw [if_pos hl] at h
      cases h1 : outOf e k A with
      | none => simp [h1] at h
      | some B =>
        cases h2 : outsOf e (k + 1) as with
        | none => simp [h1, h2] at h
        | some l =>
          simp only [h1, h2, Option.some.injEq] at h
          subst h
          obtain ⟨i1, i2⟩ := outsOf_spec h2
          have e1 : lentNs (A :: as) k = k :: lentNs as (k + 1) := by simp [lentNs, hl]
          rw [e1]
          refine ⟨by simp [i1], fun i hi => ?_⟩
          cases i with
          | zero => exact ⟨Nat.le_refl _, by simp, by simpa using h1⟩
          | succ i =>
            obtain ⟨x1, x2, x3⟩ := i2 i (by simpa using hi)
            simp only [List.getD_cons_succ]
            refine ⟨by omega, by simp only [List.length_cons]; omega, ?_⟩
            rw [show (lentNs as (k + 1)).getD i 0 - k = ((lentNs as (k + 1)).getD i 0 - (k + 1)) + 1 by omega, List.getD_cons_succ]
            exact x3
    · rw [if_neg hl] at h
      obtain ⟨i1, i2⟩ := outsOf_spec h
      have e1 : lentNs (A :: as) k = lentNs as (k + 1) := by simp [lentNs, hl]
      rw [e1]
      refine ⟨i1, fun i hi => ?_⟩
      obtain ⟨x1, x2, x3⟩ := i2 i hi
      refine ⟨by omega, by simp only [List.length_cons]; omega, ?_⟩
      rw [show (lentNs as (k + 1)).getD i 0 - k = ((lentNs as (k + 1)).getD i 0 - (k + 1)) + 1 by omega, List.getD_cons_succ]
      exact x3
/-- A function's code keeps its contract. -/
theorem simF (hm : P.follows .mixedOrders = true) {R : Nat → List AV → Option AV} (hR : VSound P R) (n : Nat) {f : Nat} {f0 : F} (hF : compF P f = some f0) {as : List AV} {r : AV} (he : evalF R (fun b e => loopN b n e) f0 as = some r) : VSpec P f as r := by
  unfold compF at hF
  cases h1 : P.funcs[f]? with
  | none => simp [h1] at hF
  | some fn =>
    simp only [h1] at hF
    cases h2 : fn.body with
    | none => simp [h2] at hF
    | some c =>
      simp only [h2] at hF
      cases h3 : compC P c with
      | none => simp only [h3, ite_self] at hF; cases hF
      | some k =>
        cases h4 : compRVs P fn.resultTypes.toList fn.results.toList with
        | none => simp only [h3, h4, ite_self] at hF; cases hF
        | some rs =>
          have hnm : ¬ (fn.name == "runtime.NumGoroutine") = true := fun hh => by simp only [h3, h4, hh, if_true] at hF; cases hF
          simp only [h3, h4, if_neg hnm, Option.some.injEq] at hF
          unfold evalF at he
          by_cases hb : as.length = f0.np ∧ f0.np ≤ f0.nt ∧ startOk f0.rp 0 as = true
          case neg => rw [if_neg hb] at he; cases he
          rw [if_pos hb] at he
          obtain ⟨b1, b2, b3⟩ := hb
          intro w vs G hok hown hl hr
          refine calls_of_wp h1 h2 ?_
          have hnt : f0.nt = fn.ntmps := by rw [← hF]
          have hst := Rel.start f0 hok hown hl (by omega) hr
          have hpins : PinsOk f0.np f0.rp ⟨fun b => ∃ p, G.own b = some p, pinsOf as vs⟩ := pinsOk_of b1 b3
          cases hev : evalC R (fun b e => loopN b n e) f0.body (f0.start as) with
          | none => simp [hev] at he
          | some q =>
            obtain ⟨x, e'⟩ := q
            have hmk : Marked f0.np f0.rp k f0.body := by rw [← hF]; exact mark_marked _ _ _ _ _
            rw [hnt] at hst
            refine simC hm hR hpins n c k _ h3 hmk _ _ _ _ x e' _ hst hev (fun a' w' G' h' => ?_)
            have hN : e'.objs.length = e'.objs.length := rfl
            have fin : f0.finish as e' = some r → a'.defers = [] ∧ ∃ v, (Go.results fn a'.tmps).run P w' = .ok v w' ∧ ∃ u G2, Ending.returned v = .returned u ∧ Frame w ⟨fun b => ∃ p, G.own b = some p, []⟩ w' ∧ (∀ b o, G2.ok b o → b < w'.heap.size) ∧ (∀ b o, G.ok b o → G2.ok b o) ∧
                (∀ b o, b < w.heap.size → (¬ ∃ p, G.own b = some p) → G2.ok b o → G.ok b o) ∧ (∀ b p, G2.own b = some p → b < w'.heap.size ∧ (w.heap.size ≤ b ∨ ∃ p, G.own b = some p) ∧ ∀ o, ¬ G2.ok b o) ∧
                Post w G as vs r w' u G2 := fun hh => by
              unfold F.finish at hh
              cases hres : resultsA f0.np f0.res e' with
              | none => simp [hres] at hh
              | some q2 =>
                obtain ⟨A, e1⟩ := q2
                simp only [hres] at hh
                have hc' : compRVs P fn.resultTypes.toList fn.results.toList = some f0.res := by rw [← hF]; exact h4
                obtain ⟨v, G1, D, r1, r2, r3, r4⟩ := resultsA_rep h' hc' hres
                refine ⟨h'.defers, v, r1, v, G1.fin f0.np D, rfl, ⟨r2.fr.os, r2.fr.tape, r2.fr.output, r2.fr.size, r2.fr.block, r2.fr.drawn⟩, r2.okb, r2.okm, r2.ok0, fun b p hp => ?_, ?_⟩
                · simp only [Gh.fin] at hp
                  cases ho : G1.own b with
                  | none => simp [ho] at hp
                  | some p' => exact r2.own b p' ho
                · have hS : RepS w' (G1.fin f0.np D) as.length v A := by
                    rw [b1]
                    cases A
                    case tup l =>
                      obtain ⟨us, x1, x2, x3⟩ := r4
                      exact ⟨us, x1, x2, fun i hi => (x3 i hi).fin r3⟩
                    all_goals exact RepS.ofOne (by intro l hl; cases hl) ((RepS.one (by intro l hl; cases hl) r4).fin r3)
                  by_cases hany : as.any isLent = true
                  · rw [if_pos hany] at hh
                    cases hout : outsOf e1 0 as with
                    | none => simp [hout] at hh
                    | some outs =>
                      simp only [hout, Option.some.injEq] at hh
                      subst hh
                      obtain ⟨o1, o2⟩ := outsOf_spec hout
                      refine ⟨hS, o1, fun i hi => ?_⟩
                      obtain ⟨x1, x2, x3⟩ := o2 i hi
                      generalize hk : (lentNs as 0).getD i 0 = kk at x1 x2 x3
                      rw [Nat.sub_zero] at x2 x3
                      have hkn : kk < f0.np := by omega
                      have hpin : ∀ (hl : isLent (as.getD kk .unk) = true), RepT0 w' G1 e1 (vs.getD kk undef) (startT1 kk (as.getD kk .unk)) := fun hl => r2.pins (vs.getD kk undef, startT1 kk (as.getD kk .unk)) (mem_pinsOf.2 ⟨kk, x2, hl, rfl⟩)
                      revert x3 hpin
                      generalize as.getD kk .unk = B
                      intro x3 hpin
                      cases B <;> simp only [outOf] at x3 <;> try (cases x3; done)
                      · -- a row
                        simp only [Option.some.injEq] at x3
                        rw [← x3]
                        have hp := hpin rfl
                        cases hc : e1.cellR kk 1 0 [] 0 with
                        | none => exact RepR.unk _
                        | some C =>
                          cases C <;> simp only [hc] <;> try exact RepR.unk _
                          exact RepC.finK hkn (ref_cell r2 hp hc)
                      · -- a variable
                        have hp := hpin rfl
                        cases hob : e1.obj kk 1 with
                        | none => simp [hob] at x3
                        | some o =>
                          simp only [hob] at x3
                          cases hkk : o.k <;> simp only [hkk] at x3 <;> try (cases x3; done)
                          rename_i l'
                          simp only [Option.some.injEq] at x3
                          rw [← x3]
                          obtain ⟨y1, y2⟩ := Env.obj_some.1 hob
                          obtain ⟨_, b, oo, z2, z3⟩ := hp
                          obtain ⟨c1, c2⟩ := z3 l' (Env.cellsP_some.2 ⟨o, y1, y2, .inl ⟨rfl, hkk⟩⟩)
                          have hO := r2.objs kk (lt_obj y1)
                          rw [Env.kind_of y1, hkk] at hO
                          obtain ⟨q1, vs2, T, q2, q3, q4⟩ := hO
                          have hbl : (G1.fin f0.np D).bl kk = G1.bl kk := by simp only [Gh.fin, if_pos hkn]
                          refine ⟨by rw [hbl, z2, c1, c2]; rfl, by rw [hbl]; simp only [Gh.fin, q1, if_pos hkn], vs2, T, by rw [hbl]; exact q2, q3, fun i hi => RepC.finK hkn (q4 i hi)⟩
                  · rw [if_neg hany] at hh
                    have hns : lentNs as 0 = [] := by
                      cases hq : lentNs as 0 with
                      | nil => rfl
                      | cons kk l =>
                        exfalso
                        have hm : kk ∈ lentNs as 0 := by rw [hq]; simp
                        obtain ⟨m1, m2⟩ := lentNs_mem.1 hm
                        refine hany (List.any_eq_true.2 ⟨as.getD kk .unk, ?_, m2⟩)
                        rw [List.getD_eq_getElem?_getD, List.getElem?_eq_getElem m1]; exact List.getElem_mem m1
                    cases A <;> simp only [Option.some.injEq] at hh <;> first | (cases hh; done) | (subst hh; exact ⟨hS, hns⟩)
            cases x with
            | normal =>
              simp only [hev] at he
              obtain ⟨d1, v, d2, u, G2, d3, d4, d5, d6, d7, d8, d9⟩ := fin he
              exact ⟨d1, v, d2, u, G2, d3, d4, d5, d6, d7, d8, by cases r <;> exact d9⟩
            | ret =>
              simp only [hev] at he
              obtain ⟨d1, v, d2, u, G2, d3, d4, d5, d6, d7, d8, d9⟩ := fin he
              exact ⟨d1, v, d2, u, G2, d3, d4, d5, d6, d7, d8, by cases r <;> exact d9⟩
            | exit id => simp [hev] at he
end
end Go.Nv
/- BY VALUE, with trees. Part 47: with as many rounds as it takes. -/
namespace Go.Nv
/-- With so many rounds. 'T': the functions told by their code; 'S': those told otherwise. -/
def runK (T : Nat → Option F) (S : Nat → List AV → Option AV) : Nat → Nat → List AV → Option AV
  | 0, _, _ => none
  | n + 1, f, as => match T f with
    | some F => evalF (runK T S n) (fun b e => loopN b n e) F as
    | none => S f as
theorem compF_callable {P : Program} {f : Nat} {f0 : F} (hF : compF P f = some f0) : callable P f = true := by
  unfold compF at hF
  unfold callable
  cases h1 : P.funcs[f]? with
  | none => simp [h1] at hF
  | some fn =>
    simp only [h1] at hF ⊢
    cases h2 : fn.body with
    | none => simp [h2] at hF
    | some c =>
      simp only [h2] at hF
      by_cases hnm : (fn.name == "runtime.NumGoroutine") = true
      · rw [if_pos hnm] at hF; cases hF
      · simp [hnm]
/-- The evaluator is right, if what it takes for granted is. -/
theorem runK_sound [Dr] {P : Program} (hm : P.follows .mixedOrders = true) {T : Nat → Option F} {S : Nat → List AV → Option AV} (hT : ∀ f F, T f = some F → compF P f = some F) (hS : VSound P S) : ∀ n, VSound P (runK T S n) := by
  intro n
  induction n with
  | zero => intro f as r h; simp [runK] at h
  | succ n ih =>
    intro f as r h
    simp only [runK] at h
    cases hf : T f with
    | none => simp only [hf] at h; exact hS f as r h
    | some f0 =>
      simp only [hf] at h
      exact ⟨simF hm ih n (hT f f0 hf) h, compF_callable (hT f f0 hf)⟩
section
variable {α : Type}
open Classical in
noncomputable def lim (g : Nat → Option α) : Option α := if h : ∃ n, (g n).isSome = true then g h.choose else none
def Mono (g : Nat → Option α) : Prop := ∀ n r, g n = some r → g (n + 1) = some r
theorem Mono.le {g : Nat → Option α} (h : Mono g) {n m : Nat} (hnm : n ≤ m) {r : α} (hr : g n = some r) : g m = some r := by
  induction hnm with
  | refl => exact hr
  | step _ ih => exact h _ _ ih
theorem lim_some {g : Nat → Option α} {r : α} (h : lim g = some r) : ∃ n, g n = some r := by
  unfold lim at h
  split at h
  · exact ⟨_, h⟩
  · cases h
theorem lim_of {g : Nat → Option α} (hg : Mono g) {n : Nat} {r : α} (h : g n = some r) : lim g = some r := by
  unfold lim
  have hex : ∃ n, (g n).isSome = true := ⟨n, by rw [h]; rfl⟩
  rw [dif_pos hex]
  obtain ⟨r', hr'⟩ := Option.isSome_iff_exists.1 hex.choose_spec
  rcases Nat.le_total n hex.choose with hle | hle
  · rw [hg.le hle h]
  · have := hg.le hle hr'
    rw [h] at this
    cases this
    exact hr'
end
abbrev RT := Nat → List AV → Option AV
abbrev BT := Env → Option (Ex × Env)
def LeR (R R' : RT) : Prop := ∀ f as r, R f as = some r → R' f as = some r
def LeB (b b' : BT) : Prop := ∀ e r, b e = some r → b' e = some r
def LeL (L L' : BT → BT) : Prop := ∀ b b', LeB b b' → LeB (L b) (L' b')
theorem loopN_mono {b b' : BT} (hb : LeB b b') : ∀ {n n' : Nat}, n ≤ n' → ∀ {e : Env} {r : Ex × Env}, loopN b n e = some r → loopN b' n' e = some r
  | 0, n', _, e, r, h => by simp [loopN] at h
  | n + 1, 0, hn, e, r, h => by omega
  | n + 1, n' + 1, hn, e, r, h => by
    simp only [loopN] at h ⊢
    cases h1 : b e with
    | none => simp [h1] at h
    | some q =>
      rw [hb e q h1]
      obtain ⟨x, e'⟩ := q
      cases x with
      | normal => simp only [h1] at h ⊢; exact loopN_mono hb (by omega) h
      | exit id => simp only [h1] at h ⊢; exact h
      | ret => simp only [h1] at h ⊢; exact h
section
variable {R R' : RT} {L L' : BT → BT} {e : Env}
theorem callA_mono (hR : LeR R R') {dst : Option Nat} {f : Nat} {ms : List Md} {As : List AV} {e' : Env} (h : callA R e dst f ms As = some e') : callA R' e dst f ms As = some e' := by
  unfold callA at h ⊢
  cases h1 : e.freezes (roRefs ms As) with
  | none => simp [h1] at h
  | some e1 =>
    simp only [h1] at h ⊢
    cases h2 : e1.argsV ms As with
    | none => simp [h2] at h
    | some Bs =>
      simp only [h2] at h ⊢
      cases hr : R f Bs with
      | none =>
        exfalso
        split at h
        · simp [hr] at h
        · split at h
          · split at h
            · simp [hr] at h
            · cases h
          · cases h
      | some r =>
        rw [hR f Bs r hr]
        rw [hr] at h
        exact h
theorem evalO_mono (hR : LeR R R') {o : O} {d : Option Nat} {e' : Env} (h : evalO R e d o = some e') : evalO R' e d o = some e' := by
  cases o
  case call f ms xs => exact callA_mono hR h
  case calld x xs =>
    simp only [evalO] at h ⊢
    cases hx : e.get x <;> simp only [hx] at h ⊢ <;> try (cases h; done)
    · exact callA_mono hR h
    · exact callA_mono hR h
  all_goals exact h
theorem evalOP_mono (hR : LeR R R') {c : OP} {e' : Env} (h : evalOP R e c = some e') : evalOP R' e c = some e' := by
  unfold evalOP at h ⊢
  cases hg : c.guard with
  | none => rw [hg] at h; exact evalO_mono hR h
  | some g =>
    obtain ⟨t, want⟩ := g
    rw [hg] at h
    simp only at h ⊢
    cases hb : e.tmps.getD t .unk <;> simp only [hb] at h ⊢ <;> try (cases h; done)
    · exact h
    split at h
    · rename_i hh; rw [if_pos hh]; exact evalO_mono hR h
    · rename_i hh; rw [if_neg hh]; exact h
theorem evalOps_mono (hR : LeR R R') : ∀ {ops : List OP} {e e' : Env}, evalOps R ops e = some e' → evalOps R' ops e = some e'
  | [], e, e', h => h
  | o :: os, e, e', h => by
    simp only [evalOps] at h ⊢
    cases h1 : evalOP R e o with
    | none => simp [h1] at h
    | some e1 => rw [evalOP_mono hR h1]; simp only [h1] at h; exact evalOps_mono hR h
theorem evalD_mono (hR : LeR R R') : ∀ {ops : List OP} {e : Env} {r : Env × List FP}, evalD R ops e = some r → evalD R' ops e = some r
  | [], e, r, h => h
  | o :: os, e, r, h => by
    simp only [evalD] at h ⊢
    cases h1 : evalOP R e o with
    | none => simp [h1] at h
    | some e1 =>
      rw [evalOP_mono hR h1]
      simp only [h1] at h ⊢
      cases h2 : evalD R os e1 with
      | none => simp [h2] at h
      | some q => rw [evalD_mono hR h2]; rw [h2] at h; exact h
theorem evalC_mono (hR : LeR R R') (hL : LeL L L') : ∀ (c : C) {e : Env} {r : Ex × Env}, evalC R L c e = some r → evalC R' L' c e = some r := by
  intro c
  induction c with
  | skip => intro e r h; exact h
  | exit id => intro e r h; exact h
  | ret => intro e r h; exact h
  | clr np rp keep rows bxs => intro e r h; exact h
  | drw ops prs =>
    intro e r h
    simp only [evalC] at h ⊢
    cases h1 : evalD R ops e with
    | none => simp [h1] at h
    | some q => rw [evalD_mono hR h1]; rw [h1] at h; exact h
  | reg ops =>
    intro e r h
    simp only [evalC] at h ⊢
    cases h1 : evalOps R ops e with
    | none => simp [h1] at h
    | some e1 => rw [evalOps_mono hR h1]; simp only [h1] at h; exact h
  | seq a b iha ihb =>
    intro e r h
    simp only [evalC] at h ⊢
    cases h1 : evalC R L a e with
    | none => simp [h1] at h
    | some q =>
      rw [iha h1]
      obtain ⟨x, e1⟩ := q
      cases x <;> simp only [h1] at h ⊢
      · exact ihb h
      · exact h
      · exact h
  | cond x a b iha ihb =>
    intro e r h
    simp only [evalC] at h ⊢
    cases hb : e.get x <;> simp only [hb] at h ⊢ <;> try (cases h; done)
    split at h
    · rename_i hh; rw [if_pos hh]; exact iha h
    · rename_i hh; rw [if_neg hh]; exact ihb h
  | blk id a iha =>
    intro e r h
    simp only [evalC] at h ⊢
    cases h1 : evalC R L a e with
    | none => simp [h1] at h
    | some q => rw [iha h1]; rw [h1] at h; exact h
  | loop a iha =>
    intro e r h
    simp only [evalC] at h ⊢
    exact hL _ _ (fun e r h => iha h) e r h
theorem evalF_mono (hR : LeR R R') (hL : LeL L L') {f0 : F} {as : List AV} {r : AV} (h : evalF R L f0 as = some r) : evalF R' L' f0 as = some r := by
  unfold evalF at h ⊢
  split at h
  · rename_i hh
    rw [if_pos hh]
    cases h1 : evalC R L f0.body (f0.start as) with
    | none => simp [h1] at h
    | some q => rw [evalC_mono hR hL _ h1]; rw [h1] at h; exact h
  · cases h
end
def LN (n : Nat) : BT → BT := fun b e => loopN b n e
theorem LN_le {n m : Nat} (h : n ≤ m) : LeL (LN n) (LN m) := fun b b' hb e r hr => loopN_mono hb h hr
variable {T : Nat → Option F} {S : RT}
theorem runK_succ (T : Nat → Option F) (S : RT) (n f : Nat) (as : List AV) : runK T S (n + 1) f as = match T f with
    | some f0 => evalF (runK T S n) (LN n) f0 as
    | none => S f as := rfl
theorem runK_mono : ∀ n, LeR (runK T S n) (runK T S (n + 1))
  | 0 => fun f as r h => by simp [runK] at h
  | n + 1 => fun f as r h => by
    rw [runK_succ] at h ⊢
    cases hf : T f with
    | none => simp only [hf] at h ⊢; exact h
    | some f0 => simp only [hf] at h ⊢; exact evalF_mono (runK_mono n) (LN_le (by omega)) h
theorem runK_le {n m : Nat} (h : n ≤ m) : LeR (runK T S n) (runK T S m) := by
  induction h with
  | refl => exact fun _ _ _ h => h
  | step _ ih => exact fun f as r h => runK_mono _ f as r (ih f as r h)
/-- The evaluator, with as many rounds as it takes. -/
noncomputable def run (T : Nat → Option F) (S : RT) : RT := fun f as => lim (fun n => runK T S n f as)
noncomputable def LL : BT → BT := fun b e => lim (fun n => loopN b n e)
theorem run_some {f : Nat} {as : List AV} {r : AV} (h : run T S f as = some r) : ∃ n, runK T S n f as = some r := lim_some h
theorem run_of {n f : Nat} {as : List AV} {r : AV} (h : runK T S n f as = some r) : run T S f as = some r := lim_of (fun n r h => runK_mono n f as r h) h
theorem LL_some {b : BT} {e : Env} {r : Ex × Env} (h : LL b e = some r) : ∃ n, loopN b n e = some r := lim_some h
theorem LL_of {b : BT} {n : Nat} {e : Env} {r : Ex × Env} (h : loopN b n e = some r) : LL b e = some r := lim_of (fun n r h => loopN_mono (fun _ _ h => h) (Nat.le_succ n) h) h
/-- A loop: a round, and the rest. -/
theorem LL_eq (b : BT) (e : Env) : LL b e = match b e with
    | some (.normal, e') => LL b e'
    | r => r := by
  have key : ∀ r, LL b e = some r ↔ (match b e with
    | some (.normal, e') => LL b e'
    | r => r) = some r := by
    intro r
    constructor
    · intro h
      obtain ⟨n, hn⟩ := LL_some h
      cases n with
      | zero => simp [loopN] at hn
      | succ n =>
        simp only [loopN] at hn
        cases h1 : b e with
        | none => simp [h1] at hn
        | some q =>
          obtain ⟨x, e1⟩ := q
          cases x <;> simp only [h1] at hn ⊢
          · exact LL_of hn
          · exact hn
          · exact hn
    · intro h
      cases h1 : b e with
      | none => simp [h1] at h
      | some q =>
        obtain ⟨x, e1⟩ := q
        cases x <;> simp only [h1] at h
        · obtain ⟨n, hn⟩ := LL_some h
          exact LL_of (n := n + 1) (by simp only [loopN, h1]; exact hn)
        · exact LL_of (n := 1) (by simp only [loopN, h1]; exact h)
        · exact LL_of (n := 1) (by simp only [loopN, h1]; exact h)
  generalize (match b e with
    | some (.normal, e') => LL b e'
    | r => r) = X at key
  cases X with
  | none =>
    cases hL : LL b e with
    | none => rfl
    | some r => exact ((key r).1 hL).symm
  | some r => exact (key r).2 rfl
theorem LN_LL (n : Nat) : LeL (LN n) LL := fun b b' hb e r h => LL_of (loopN_mono hb (Nat.le_refl n) h)
/-! ### Back to so many rounds -/
theorem callA_back {dst : Option Nat} {f : Nat} {ms : List Md} {As : List AV} {e e' : Env} (h : callA (run T S) e dst f ms As = some e') : ∃ m, callA (runK T S m) e dst f ms As = some e' := by
  unfold callA at h ⊢
  cases h1 : e.freezes (roRefs ms As) with
  | none => simp [h1] at h
  | some e1 =>
    simp only [h1] at h ⊢
    cases h2 : e1.argsV ms As with
    | none => simp [h2] at h
    | some Bs =>
      simp only [h2] at h ⊢
      cases hr : run T S f Bs with
      | none =>
        exfalso
        split at h
        · simp [hr] at h
        · split at h
          · split at h
            · simp [hr] at h
            · cases h
          · cases h
      | some r =>
        obtain ⟨m, hm⟩ := run_some hr
        refine ⟨m, ?_⟩
        rw [hm]
        rw [hr] at h
        exact h
theorem evalO_back {d : Option Nat} {o : O} {e e' : Env} (h : evalO (run T S) e d o = some e') : ∃ m, evalO (runK T S m) e d o = some e' := by
  cases o
  case call f ms xs => exact callA_back h
  case calld x xs =>
    simp only [evalO] at h ⊢
    cases hx : e.get x <;> simp only [hx] at h ⊢ <;> try (cases h; done)
    · exact callA_back h
    · exact callA_back h
  all_goals exact ⟨0, h⟩
theorem evalOP_back {c : OP} {e e' : Env} (h : evalOP (run T S) e c = some e') : ∃ m, evalOP (runK T S m) e c = some e' := by
  unfold evalOP at h ⊢
  cases hg : c.guard with
  | none =>
    rw [hg] at h
    exact evalO_back h
  | some g =>
    obtain ⟨t, want⟩ := g
    rw [hg] at h
    simp only at h ⊢
    cases hb : e.tmps.getD t .unk <;> simp only [hb] at h ⊢ <;> try (cases h; done)
    · exact ⟨0, h⟩
    rename_i b
    by_cases hw : b = want
    · rw [if_pos hw] at h
      obtain ⟨m, hm⟩ := evalO_back h
      exact ⟨m, by rw [if_pos hw]; exact hm⟩
    · rw [if_neg hw] at h
      exact ⟨0, by rw [if_neg hw]; exact h⟩
theorem evalOps_back : ∀ {ops : List OP} {e e' : Env}, evalOps (run T S) ops e = some e' → ∃ n, evalOps (runK T S n) ops e = some e'
  | [], e, e', h => ⟨0, h⟩
  | o :: os, e, e', h => by
    simp only [evalOps] at h
    cases h1 : evalOP (run T S) e o with
    | none => simp [h1] at h
    | some e1 =>
      simp only [h1] at h
      obtain ⟨n, hn⟩ := evalOps_back h
      obtain ⟨m, hm⟩ := evalOP_back h1
      refine ⟨max n m, ?_⟩
      simp only [evalOps, evalOP_mono (runK_le (Nat.le_max_right n m)) hm]
      exact evalOps_mono (runK_le (Nat.le_max_left n m)) hn
theorem evalD_back : ∀ {ops : List OP} {e : Env} {r : Env × List FP}, evalD (run T S) ops e = some r → ∃ n, evalD (runK T S n) ops e = some r
  | [], e, r, h => ⟨0, h⟩
  | o :: os, e, r, h => by
    simp only [evalD] at h
    cases h1 : evalOP (run T S) e o with
    | none => simp [h1] at h
    | some e1 =>
      simp only [h1] at h
      cases h2 : evalD (run T S) os e1 with
      | none => simp [h2] at h
      | some q =>
        obtain ⟨n, hn⟩ := evalD_back h2
        obtain ⟨m, hm⟩ := evalOP_back h1
        refine ⟨max n m, ?_⟩
        simp only [evalD, evalOP_mono (runK_le (Nat.le_max_right n m)) hm, evalD_mono (runK_le (Nat.le_max_left n m)) hn]
        rw [h2] at h; exact h
theorem evalC_back : ∀ (c : C) {e : Env} {r : Ex × Env}, evalC (run T S) LL c e = some r → ∃ n, evalC (runK T S n) (LN n) c e = some r := by
  intro c
  induction c with
  | skip => intro e r h; exact ⟨0, h⟩
  | exit id => intro e r h; exact ⟨0, h⟩
  | ret => intro e r h; exact ⟨0, h⟩
  | clr np rp keep rows bxs => intro e r h; exact ⟨0, h⟩
  | drw ops prs =>
    intro e r h
    simp only [evalC] at h
    cases h1 : evalD (run T S) ops e with
    | none => simp [h1] at h
    | some q =>
      obtain ⟨n, hn⟩ := evalD_back h1
      exact ⟨n, by simp only [evalC, hn]; rw [h1] at h; exact h⟩
  | reg ops =>
    intro e r h
    simp only [evalC] at h
    cases h1 : evalOps (run T S) ops e with
    | none => simp [h1] at h
    | some e1 =>
      simp only [h1] at h
      obtain ⟨n, hn⟩ := evalOps_back h1
      exact ⟨n, by simp only [evalC, hn]; exact h⟩
  | seq a b iha ihb =>
    intro e r h
    simp only [evalC] at h
    cases h1 : evalC (run T S) LL a e with
    | none => simp [h1] at h
    | some q =>
      obtain ⟨x, e1⟩ := q
      obtain ⟨n, hn⟩ := iha h1
      cases x <;> simp only [h1] at h
      · obtain ⟨m, hm⟩ := ihb h
        refine ⟨max n m, ?_⟩
        simp only [evalC, evalC_mono (runK_le (Nat.le_max_left n m)) (LN_le (Nat.le_max_left n m)) a hn]
        exact evalC_mono (runK_le (Nat.le_max_right n m)) (LN_le (Nat.le_max_right n m)) b hm
      · exact ⟨n, by simp only [evalC, hn]; exact h⟩
      · exact ⟨n, by simp only [evalC, hn]; exact h⟩
  | cond x a b iha ihb =>
    intro e r h
    simp only [evalC] at h
    cases hb : e.get x <;> simp only [hb] at h <;> try (cases h; done)
    split at h
    · rename_i hh
      obtain ⟨n, hn⟩ := iha h
      exact ⟨n, by simp only [evalC, hb]; rw [if_pos hh]; exact hn⟩
    · rename_i hh
      obtain ⟨n, hn⟩ := ihb h
      exact ⟨n, by simp only [evalC, hb]; rw [if_neg hh]; exact hn⟩
  | blk id a iha =>
    intro e r h
    simp only [evalC] at h
    cases h1 : evalC (run T S) LL a e with
    | none => simp [h1] at h
    | some q =>
      obtain ⟨n, hn⟩ := iha h1
      rw [h1] at h
      exact ⟨n, by simp only [evalC, hn]; exact h⟩
  | loop a iha =>
    intro e r h
    simp only [evalC] at h
    obtain ⟨m, hm⟩ := LL_some h
    have key : ∀ (m : Nat) (e : Env), loopN (evalC (run T S) LL a) m e = some r → ∃ n, loopN (evalC (runK T S n) (LN n) a) m e = some r := by
      intro m
      induction m with
      | zero => intro e h; simp [loopN] at h
      | succ m ih =>
        intro e h
        simp only [loopN] at h
        cases h1 : evalC (run T S) LL a e with
        | none => simp [h1] at h
        | some q =>
          obtain ⟨x, e1⟩ := q
          obtain ⟨n, hn⟩ := iha h1
          cases x <;> simp only [h1] at h
          · obtain ⟨n', hn'⟩ := ih e1 h
            refine ⟨max n n', ?_⟩
            simp only [loopN, evalC_mono (runK_le (Nat.le_max_left n n')) (LN_le (Nat.le_max_left n n')) a hn]
            exact loopN_mono (fun e r h => evalC_mono (runK_le (Nat.le_max_right n n')) (LN_le (Nat.le_max_right n n')) a h) (Nat.le_refl m) hn'
          · exact ⟨n, by simp only [loopN, hn]; exact h⟩
          · exact ⟨n, by simp only [loopN, hn]; exact h⟩
    obtain ⟨n, hn⟩ := key m e hm
    refine ⟨max n m, ?_⟩
    simp only [evalC]
    exact loopN_mono (fun e r h => evalC_mono (runK_le (Nat.le_max_left n m)) (LN_le (Nat.le_max_left n m)) a h) (Nat.le_max_right n m) hn
theorem evalF_back {f0 : F} {as : List AV} {r : AV} (h : evalF (run T S) LL f0 as = some r) : ∃ n, evalF (runK T S n) (LN n) f0 as = some r := by
  unfold evalF at h
  split at h
  · rename_i hh
    cases h1 : evalC (run T S) LL f0.body (f0.start as) with
    | none => simp [h1] at h
    | some q =>
      obtain ⟨n, hn⟩ := evalC_back _ h1
      refine ⟨n, ?_⟩
      unfold evalF
      rw [if_pos hh, hn]; rw [h1] at h; exact h
  · cases h
/-- **What a function gives.** -/
theorem run_eq {f : Nat} {f0 : F} (hf : T f = some f0) {as : List AV} {r : AV} (h : evalF (run T S) LL f0 as = some r) : run T S f as = some r := by
  obtain ⟨n, hn⟩ := evalF_back h
  exact run_of (n := n + 1) (by rw [runK_succ, hf]; exact hn)
theorem run_ext {f : Nat} (hf : T f = none) {as : List AV} {r : AV} (h : S f as = some r) : run T S f as = some r :=
  run_of (n := 1) (by rw [runK_succ, hf]; exact h)
theorem run_sound [Dr] {P : Program} (hm : P.follows .mixedOrders = true) (hT : ∀ f F, T f = some F → compF P f = some F) (hS : VSound P S) : VSound P (run T S) := fun f as r h => by
  obtain ⟨n, hn⟩ := run_some h
  exact runK_sound hm hT hS n f as r hn
end Go.Nv
/- BY VALUE: strings by their bytes. -/
namespace Go.Nv
def bs (l : List Nat) : ByteArray := ⟨(l.map UInt8.ofNat).toArray⟩
end Go.Nv
/- BY VALUE, with trees. Part 48: the evaluator with what follows, for rewriting (1): code, and what is carried out. -/
namespace Go.Nv
section
variable {β : Type} {R : RT} {L : BT → BT}
def bindOps (R : RT) (ops : List OP) (e : Env) (k : Env → Option β) : Option β := match evalOps R ops e with
  | some e' => k e'
  | none => none
def bindC (R : RT) (L : BT → BT) (c : C) (e : Env) (k : Ex → Env → Option β) : Option β := match evalC R L c e with
  | some (x, e') => k x e'
  | none => none
def bindD (R : RT) (ops : List OP) (e : Env) (fs : List FP) (k : List FP → Env → Option β) : Option β := match evalD R ops e with
  | some (e', fs') => k (fs ++ fs') e'
  | none => none
def onE (x : Option Env) (k : Env → Option β) : Option β := match x with
  | some e => k e
  | none => none
def onA (e : Env) (d : Option Nat) (x : Option AV) (k : Env → Option β) : Option β := match x with
  | some A => k (e.put d A)
  | none => none
def onBool (A : AV) (f : Bool → Option β) : Option β := match A with
  | .bool b => f b
  | _ => none
theorem onBool_bool {b : Bool} {f : Bool → Option β} : onBool (.bool b) f = f b := _root_.id rfl
theorem onE_some {e : Env} {k : Env → Option β} : onE (some e) k = k e := _root_.id rfl
theorem onE_none {k : Env → Option β} : onE none k = none := _root_.id rfl
theorem onA_some {e : Env} {d : Option Nat} {A : AV} {k : Env → Option β} : onA e d (some A) k = k (e.put d A) := _root_.id rfl
theorem onA_none {e : Env} {d : Option Nat} {k : Env → Option β} : onA e d none k = none := _root_.id rfl
def O.isA : O → Bool
  | .box .. => false
  | .new .. => false
  | .st .. => false
  | .mk .. => false
  | .lit .. => false
  | .app .. => false
  | .apps .. => false
  | .cpy .. => false
  | .cvsb .. => false
  | .sub .. => false
  | .call .. => false
  | .calld .. => false
  | .clo .. => false
  | .mkm => false
  | .mset .. => false
  | .clof .. => false
  | _ => true
theorem evalO_act {e : Env} {d : Option Nat} {o : O} (h : o.isA = true) : evalO R e d o = (match act e o with
    | some A => some (e.put d A)
    | none => none) := by cases o <;> first | rfl | (cases h; done)
theorem bindOps_nil (e : Env) (k : Env → Option β) : bindOps R [] e k = k e := _root_.id rfl
theorem bindOps_a {d : Option Nat} {o : O} {os : List OP} {e : Env} {k : Env → Option β} (h : o.isA = true) : bindOps R (⟨d, o, none⟩ :: os) e k = onA e d (act e o) (fun e' => bindOps R os e' k) := by
  unfold bindOps onA
  simp only [evalOps, evalOP, evalO_act h]
  cases act e o <;> rfl
theorem bindOps_w {d : Option Nat} {o : O} {os : List OP} {e : Env} {k : Env → Option β} (h : o.isA = false) : bindOps R (⟨d, o, none⟩ :: os) e k = onE (evalO R e d o) (fun e' => bindOps R os e' k) := by
  unfold bindOps onE
  simp only [evalOps, evalOP]
  cases evalO R e d o <;> rfl
/-- Is an operation carried out? -/
def effT : AV → Option Bool
  | .bool b => some b
  | .und => some false
  | _ => none
def effF : AV → Option Bool
  | .bool b => some (!b)
  | .und => some false
  | _ => none
def onEff (x : Option Bool) (f : Bool → Option β) : Option β := match x with
  | some b => f b
  | none => none
theorem onEff_some {b : Bool} {f : Bool → Option β} : onEff (some b) f = f b := _root_.id rfl
theorem effT_bool {b : Bool} : effT (.bool b) = some b := _root_.id rfl
theorem effF_bool {b : Bool} : effF (.bool b) = some (!b) := _root_.id rfl
theorem effT_und : effT .und = some false := _root_.id rfl
theorem effF_und : effF .und = some false := _root_.id rfl
theorem effT_ite {c x : Bool} : effT (if c = true then .bool x else .und) = some (c && x) := by cases c <;> rfl
theorem effF_ite {c x : Bool} : effF (if c = true then .bool x else .und) = some (c && !x) := by cases c <;> rfl
theorem bindOps_gt {d : Option Nat} {o : O} {t : Nat} {os : List OP} {e : Env} {k : Env → Option β} (h : o.isA = true) :
    bindOps R (⟨d, o, some (t, true)⟩ :: os) e k = onEff (effT (e.tmps.getD t .unk)) (fun b => onA e d (if b = true then act e o else some .und) (fun e' => bindOps R os e' k)) := by
  unfold bindOps onA onEff effT
  simp only [evalOps, evalOP]
  cases hb : e.tmps.getD t .unk <;> try rfl
  rename_i b
  cases b with
  | true => simp only [if_true, evalO_act h]; cases act e o <;> rfl
  | false => rfl
theorem bindOps_gf {d : Option Nat} {o : O} {t : Nat} {os : List OP} {e : Env} {k : Env → Option β} (h : o.isA = true) :
    bindOps R (⟨d, o, some (t, false)⟩ :: os) e k = onEff (effF (e.tmps.getD t .unk)) (fun b => onA e d (if b = true then act e o else some .und) (fun e' => bindOps R os e' k)) := by
  unfold bindOps onA onEff effF
  simp only [evalOps, evalOP]
  cases hb : e.tmps.getD t .unk <;> try rfl
  rename_i b
  cases b with
  | false => simp only [if_true, evalO_act h, Bool.not_false]; cases act e o <;> rfl
  | true => rfl
theorem bindOps_gtw {d : Option Nat} {o : O} {t : Nat} {os : List OP} {e : Env} {k : Env → Option β} (h : o.isA = false) :
    bindOps R (⟨d, o, some (t, true)⟩ :: os) e k = onEff (effT (e.tmps.getD t .unk)) (fun b => onE (if b = true then evalO R e d o else some (e.put d .und)) (fun e' => bindOps R os e' k)) := by
  unfold bindOps onE onEff effT
  simp only [evalOps, evalOP]
  cases hb : e.tmps.getD t .unk <;> try rfl
  rename_i b
  cases b with
  | true => simp only [if_true]; cases evalO R e d o <;> rfl
  | false => rfl
theorem bindOps_gfw {d : Option Nat} {o : O} {t : Nat} {os : List OP} {e : Env} {k : Env → Option β} (h : o.isA = false) :
    bindOps R (⟨d, o, some (t, false)⟩ :: os) e k = onEff (effF (e.tmps.getD t .unk)) (fun b => onE (if b = true then evalO R e d o else some (e.put d .und)) (fun e' => bindOps R os e' k)) := by
  unfold bindOps onE onEff effF
  simp only [evalOps, evalOP]
  cases hb : e.tmps.getD t .unk <;> try rfl
  rename_i b
  cases b with
  | false => simp only [if_true, Bool.not_false]; cases evalO R e d o <;> rfl
  | true => rfl
theorem bindD_nil {e : Env} {fs : List FP} {k : List FP → Env → Option β} : bindD R [] e fs k = k fs e := by
  simp [bindD, evalD]
theorem bindD_cons {c : OP} {cs : List OP} {e : Env} {fs : List FP} {k : List FP → Env → Option β} : bindD R (c :: cs) e fs k = bindOps R [c] e (fun e' => bindD R cs e' (fs ++ [c.fp e]) k) := by
  unfold bindOps bindD
  simp only [evalD, evalOps]
  cases evalOP R e c with
  | none => rfl
  | some e1 =>
    simp only
    cases evalD R cs e1 with
    | none => rfl
    | some q => obtain ⟨e2, fs'⟩ := q; simp
/-! Where rewriting goes: never into what follows. -/
theorem congr_bindOps {ops : List OP} {e e' : Env} {k : Env → Option β} (h : e = e') : bindOps R ops e k = bindOps R ops e' k := by rw [h]
theorem congr_bindC {c : C} {e e' : Env} {k : Ex → Env → Option β} (h : e = e') : bindC R L c e k = bindC R L c e' k := by rw [h]
theorem congr_bindD {ops : List OP} {e e' : Env} {fs fs' : List FP} {k : List FP → Env → Option β} (h : e = e') (h' : fs = fs') : bindD R ops e fs k = bindD R ops e' fs' k := by rw [h, h']
theorem congr_onE {x x' : Option Env} {k : Env → Option β} (h : x = x') : onE x k = onE x' k := by rw [h]
theorem congr_onA {e : Env} {d : Option Nat} {x x' : Option AV} {k : Env → Option β} (h : x = x') : onA e d x k = onA e d x' k := by rw [h]
theorem congr_onBool {A A' : AV} {f : Bool → Option β} (h : A = A') : onBool A f = onBool A' f := by rw [h]
theorem congr_onEff {x x' : Option Bool} {f : Bool → Option β} (h : x = x') : onEff x f = onEff x' f := by rw [h]
theorem ite_and {a b : Bool} : (if a = true then b else false) = (a && b) := by cases a <;> rfl
theorem ite_or {a b : Bool} : (if a = true then true else b) = (a || b) := by cases a <;> rfl
theorem pick_and {c x y : Bool} : (if c = true then (if c = true then AV.bool x else .und) else AV.bool y) = AV.bool (if c = true then x else y) := by cases c <;> rfl
theorem guard_and {c x : Bool} {p : Option AV} : (if (c && x) = true then p else some .und) = if c = true then (if x = true then p else some .und) else some .und := by cases c <;> rfl
theorem ite_nest {a b : Bool} {A : AV} : (if a = true then (if b = true then A else .und) else .und) = if (a && b) = true then A else .und := by cases a <;> rfl
theorem ite_val {c : Prop} [Decidable c] {A B : AV} : (if c then some A else some B) = some (if c then A else B) := by split <;> rfl
theorem ite_bool {c : Prop} [Decidable c] {a b : Bool} : (if c then AV.bool a else AV.bool b) = AV.bool (if c then a else b) := by split <;> rfl
theorem ite_int {c : Prop} [Decidable c] {k : IntKind} {a b : Int} : (if c then AV.int k a else AV.int k b) = AV.int k (if c then a else b) := by split <;> rfl
theorem ite_str {c : Prop} [Decidable c] {a b : ByteArray} : (if c then AV.str a else AV.str b) = AV.str (if c then a else b) := by split <;> rfl
/-! Code -/
theorem bindC_skip {e : Env} {k : Ex → Env → Option β} : bindC R L .skip e k = k .normal e := _root_.id rfl
theorem bindC_exit {id : Nat} {e : Env} {k : Ex → Env → Option β} : bindC R L (.exit id) e k = k (.exit id) e := _root_.id rfl
theorem bindC_ret {e : Env} {k : Ex → Env → Option β} : bindC R L .ret e k = k .ret e := _root_.id rfl
theorem bindC_reg {ops : List OP} {e : Env} {k : Ex → Env → Option β} : bindC R L (.reg ops) e k = bindOps R ops e (fun e' => k .normal e') := by
  unfold bindC bindOps
  simp only [evalC]
  cases evalOps R ops e <;> rfl
def drwK (prs : List (Nat × Nat)) (k : Ex → Env → Option β) (fs : List FP) (e : Env) : Option β := if prs.all (okPair fs) = true then k .normal e else none
theorem bindC_drw {ops : List OP} {prs : List (Nat × Nat)} {e : Env} {k : Ex → Env → Option β} : bindC R L (.drw ops prs) e k = bindD R ops e [] (drwK prs k) := by
  unfold bindC bindD
  simp only [evalC]
  cases evalD R ops e with
  | none => rfl
  | some q =>
    obtain ⟨e', fs⟩ := q
    simp only [List.nil_append, drwK]
    split
    · rename_i x hx
      split at hx
      · rename_i h; rw [if_pos h]; cases hx; rfl
      · cases hx
    · rename_i hx
      split at hx
      · cases hx
      · rename_i h; rw [if_neg h]
theorem drwK_eq {prs : List (Nat × Nat)} {k : Ex → Env → Option β} {fs : List FP} {e : Env} : drwK prs k fs e = if prs.all (okPair fs) = true then k .normal e else none := _root_.id rfl
def seqK (R : RT) (L : BT → BT) (b : C) (k : Ex → Env → Option β) : Ex → Env → Option β
  | .normal, e => bindC R L b e k
  | .exit id, e => k (.exit id) e
  | .ret, e => k .ret e
theorem bindC_seq {a b : C} {e : Env} {k : Ex → Env → Option β} : bindC R L (.seq a b) e k = bindC R L a e (seqK R L b k) := by
  unfold bindC
  simp only [evalC]
  cases evalC R L a e with
  | none => rfl
  | some q =>
    obtain ⟨x, e1⟩ := q
    cases x <;> rfl
theorem seqK_normal {b : C} {k : Ex → Env → Option β} {e : Env} : seqK R L b k .normal e = bindC R L b e k := _root_.id rfl
theorem seqK_exit {b : C} {k : Ex → Env → Option β} {e : Env} {id : Nat} : seqK R L b k (.exit id) e = k (.exit id) e := _root_.id rfl
theorem seqK_ret {b : C} {k : Ex → Env → Option β} {e : Env} : seqK R L b k .ret e = k .ret e := _root_.id rfl
theorem bindC_cond {x : X} {a b : C} {e : Env} {k : Ex → Env → Option β} : bindC R L (.cond x a b) e k = onBool (e.get x) (fun v => if v = true then bindC R L a e k else bindC R L b e k) := by
  unfold bindC onBool
  simp only [evalC]
  cases e.get x <;> try rfl
  rename_i v
  cases v <;> rfl
def blkK (id : Nat) (k : Ex → Env → Option β) : Ex → Env → Option β
  | .exit id', e => if id' = id then k .normal e else k (.exit id') e
  | .normal, e => k .normal e
  | .ret, e => k .ret e
theorem bindC_blk {id : Nat} {a : C} {e : Env} {k : Ex → Env → Option β} : bindC R L (.blk id a) e k = bindC R L a e (blkK id k) := by
  unfold bindC
  simp only [evalC]
  cases evalC R L a e with
  | none => rfl
  | some q =>
    obtain ⟨x, e1⟩ := q
    cases x with
    | normal => rfl
    | ret => rfl
    | exit id' => by_cases hid : id' = id <;> simp [blkK, hid]
theorem blkK_normal {id : Nat} {k : Ex → Env → Option β} {e : Env} : blkK id k .normal e = k .normal e := _root_.id rfl
theorem blkK_ret {id : Nat} {k : Ex → Env → Option β} {e : Env} : blkK id k .ret e = k .ret e := _root_.id rfl
theorem blkK_exit {id id' : Nat} {k : Ex → Env → Option β} {e : Env} : blkK id k (.exit id') e = if id' = id then k .normal e else k (.exit id') e := _root_.id rfl
/-- A loop's head. -/
abbrev HD := Nat × List Nat × List Nat × List (Nat × Nat × Nat) × List (Nat × Nat × Nat × Nat)
def HD.c (h : HD) : C := .clr h.1 h.2.1 h.2.2.1 h.2.2.2.1 h.2.2.2.2
def HD.e (h : HD) (e : Env) : Env := e.clr h.1 h.2.1 h.2.2.1 h.2.2.2.1 h.2.2.2.2
/-- A loop, from its head on. -/
noncomputable def headC (R : RT) (h : HD) (a : C) (e : Env) (k : Ex → Env → Option β) : Option β := match evalC R LL a e with
  | some (.normal, e') => bindC R LL (.loop (.seq h.c a)) e' k
  | some (.exit id, e') => k (.exit id) e'
  | some (.ret, e') => k .ret e'
  | none => none
theorem bindC_loop' {h : HD} {a : C} {e : Env} {k : Ex → Env → Option β} : bindC R LL (.loop (.seq h.c a)) e k = headC R h a (h.e e) k := by
  have h1 : evalC R LL (.loop (.seq h.c a)) e = match evalC R LL a (h.e e) with
      | some (.normal, e') => evalC R LL (.loop (.seq h.c a)) e'
      | r => r := by
    show LL (evalC R LL (.seq h.c a)) e = _
    rw [LL_eq]
    rfl
  unfold headC
  show (match evalC R LL (.loop (.seq h.c a)) e with
    | some (x, e') => k x e'
    | none => none) = _
  rw [h1]
  cases evalC R LL a (h.e e) with
  | none => rfl
  | some q =>
    obtain ⟨x, e1⟩ := q
    cases x <;> rfl
theorem bindC_loop {np : Nat} {rp keep : List Nat} {rows : List (Nat × Nat × Nat)} {bxs : List (Nat × Nat × Nat × Nat)} {a : C} {e : Env} {k : Ex → Env → Option β} : bindC R LL (.loop (.seq (.clr np rp keep rows bxs) a)) e k = headC R (np, rp, keep, rows, bxs) a (e.clr np rp keep rows bxs) k := bindC_loop' (h := (np, rp, keep, rows, bxs))
theorem congr_headC {h : HD} {a : C} {e e' : Env} {k : Ex → Env → Option β} (he : e = e') : headC R h a e k = headC R h a e' k := by rw [he]
noncomputable def roundK (R : RT) (h : HD) (a : C) (k : Ex → Env → Option β) : Ex → Env → Option β
  | .normal, e => bindC R LL (.loop (.seq h.c a)) e k
  | .exit id, e => k (.exit id) e
  | .ret, e => k .ret e
/-- A round. -/
theorem headC_eq {h : HD} {a : C} {e : Env} {k : Ex → Env → Option β} : headC R h a e k = bindC R LL a e (roundK R h a k) := by
  unfold headC bindC
  cases evalC R LL a e with
  | none => rfl
  | some q =>
    obtain ⟨x, e1⟩ := q
    cases x <;> rfl
theorem roundK_normal {np : Nat} {rp keep : List Nat} {rows : List (Nat × Nat × Nat)} {bxs : List (Nat × Nat × Nat × Nat)} {a : C} {k : Ex → Env → Option β} {e : Env} : roundK R (np, rp, keep, rows, bxs) a k .normal e = headC R (np, rp, keep, rows, bxs) a (e.clr np rp keep rows bxs) k := bindC_loop' (h := (np, rp, keep, rows, bxs))
theorem roundK_exit {h : HD} {a : C} {k : Ex → Env → Option β} {e : Env} {id : Nat} : roundK R h a k (.exit id) e = k (.exit id) e := _root_.id rfl
theorem roundK_ret {h : HD} {a : C} {k : Ex → Env → Option β} {e : Env} : roundK R h a k .ret e = k .ret e := _root_.id rfl
/-- A loop, by a measure. -/
theorem headC_ind {σ : Type} {h : HD} {a : C} {k : Ex → Env → Option β} (E : σ → Env) (r : σ → Option β) (μ : σ → Nat) (P : σ → Prop)
    (step : ∀ s, P s → (∀ s', P s' → μ s' < μ s → headC R h a (E s') k = r s') → bindC R LL a (E s) (roundK R h a k) = r s) : ∀ s, P s → headC R h a (E s) k = r s := by
  have key : ∀ n s, μ s < n → P s → headC R h a (E s) k = r s := by
    intro n
    induction n with
    | zero => intro s hs; omega
    | succ n ih =>
      intro s hs hp
      rw [headC_eq]
      exact step s hp (fun s' hp' hlt => ih s' (by omega) hp')
  exact fun s hp => key (μ s + 1) s (Nat.lt_succ_self _) hp
def finK (f : F) (as : List AV) : Ex → Env → Option AV
  | .normal, e => f.finish as e
  | .ret, e => f.finish as e
  | .exit _, _ => none
theorem finK_normal {f : F} {as : List AV} {e : Env} : finK f as .normal e = f.finish as e := _root_.id rfl
theorem finK_ret {f : F} {as : List AV} {e : Env} : finK f as .ret e = f.finish as e := _root_.id rfl
theorem evalF_bind {f : F} {as : List AV} (h : as.length = f.np ∧ f.np ≤ f.nt ∧ startOk f.rp 0 as = true) : evalF R L f as = bindC R L f.body (f.start as) (finK f as) := by
  unfold evalF bindC
  rw [if_pos h]
  cases evalC R L f.body (f.start as) with
  | none => rfl
  | some q =>
    obtain ⟨x, e1⟩ := q
    cases x <;> rfl
theorem run_fn {T : Nat → Option F} {S : RT} {n : Nat} {f : F} {as : List AV} {r : AV} (hf : T n = some f) (hn : as.length = f.np ∧ f.np ≤ f.nt ∧ startOk f.rp 0 as = true) (h : bindC (run T S) LL f.body (f.start as) (finK f as) = some r) : run T S n as = some r :=
  run_eq hf (by rw [evalF_bind hn]; exact h)
end
end Go.Nv
/- BY VALUE, with trees. Part 49: the evaluator with what follows, for rewriting (2): operations. -/
namespace Go.Nv
section
variable {α γ δ β : Type} {R : RT}
/-! ### What follows -/
def ob (x : Option α) (f : α → Option γ) : Option γ := match x with
  | some a => f a
  | none => none
theorem ob_some {a : α} {f : α → Option γ} : ob (some a) f = f a := _root_.id rfl
theorem ob_none {f : α → Option γ} : ob none f = none := _root_.id rfl
theorem congr_ob {x x' : Option α} {f : α → Option γ} (h : x = x') : ob x f = ob x' f := by rw [h]
def ob2 (x : Option (α × δ)) (f : α → δ → Option γ) : Option γ := match x with
  | some (a, b) => f a b
  | none => none
theorem ob2_some {a : α} {b : δ} {f : α → δ → Option γ} : ob2 (some (a, b)) f = f a b := _root_.id rfl
theorem ob2_none {f : α → δ → Option γ} : ob2 none f = none := _root_.id rfl
theorem congr_ob2 {x x' : Option (α × δ)} {f : α → δ → Option γ} (h : x = x') : ob2 x f = ob2 x' f := by rw [h]
def onI (A : AV) (f : IntKind → Int → Option γ) : Option γ := match A with
  | .int k n => f k n
  | _ => none
theorem onI_int {k : IntKind} {n : Int} {f : IntKind → Int → Option γ} : onI (.int k n) f = f k n := _root_.id rfl
theorem congr_onI {A A' : AV} {f : IntKind → Int → Option γ} (h : A = A') : onI A f = onI A' f := by rw [h]
def onS (A : AV) (f : ByteArray → Option γ) : Option γ := match A with
  | .str s => f s
  | _ => none
theorem onS_str {s : ByteArray} {f : ByteArray → Option γ} : onS (.str s) f = f s := _root_.id rfl
theorem congr_onS {A A' : AV} {f : ByteArray → Option γ} (h : A = A') : onS A f = onS A' f := by rw [h]
def onAg (A : AV) (f : List AV → Option γ) : Option γ := match A with
  | .agg l => f l
  | _ => none
theorem onAg_agg {l : List AV} {f : List AV → Option γ} : onAg (.agg l) f = f l := _root_.id rfl
theorem congr_onAg {A A' : AV} {f : List AV → Option γ} (h : A = A') : onAg A f = onAg A' f := by rw [h]
def onTu (A : AV) (f : List AV → Option γ) : Option γ := match A with
  | .tup l => f l
  | _ => none
theorem onTu_tup {l : List AV} {f : List AV → Option γ} : onTu (.tup l) f = f l := _root_.id rfl
theorem congr_onTu {A A' : AV} {f : List AV → Option γ} (h : A = A') : onTu A f = onTu A' f := by rw [h]
def onRow (A : AV) (f : Nat → Nat → List (List AV) → Option γ) : Option γ := match A with
  | .row E c l => f E c l
  | _ => none
theorem onRow_row {E c : Nat} {l : List (List AV)} {f : Nat → Nat → List (List AV) → Option γ} : onRow (.row E c l) f = f E c l := _root_.id rfl
theorem congr_onRow {A A' : AV} {f : Nat → Nat → List (List AV) → Option γ} (h : A = A') : onRow A f = onRow A' f := by rw [h]
/-- An object. -/
def obO (o : Option AObj) (f : Nat → List (List Rec) → OK → Option γ) : Option γ := match o with
  | some o => f o.gen o.vs o.k
  | none => none
theorem obO_some {g : Nat} {vs : List (List Rec)} {k : OK} {f : Nat → List (List Rec) → OK → Option γ} : obO (some ⟨g, vs, k⟩) f = f g vs k := _root_.id rfl
theorem congr_obO {o o' : Option AObj} {f : Nat → List (List Rec) → OK → Option γ} (h : o = o') : obO o f = obO o' f := by rw [h]
def onBx (k : OK) (f : List AV → Option γ) : Option γ := match k with
  | .box l => f l
  | _ => none
theorem onBx_box {l : List AV} {f : List AV → Option γ} : onBx (.box l) f = f l := _root_.id rfl
def onCl (k : OK) (f : List AV → Option γ) : Option γ := match k with
  | .box l => f l
  | .val l => f l
  | _ => none
theorem onCl_box {l : List AV} {f : List AV → Option γ} : onCl (.box l) f = f l := _root_.id rfl
theorem onCl_val {l : List AV} {f : List AV → Option γ} : onCl (.val l) f = f l := _root_.id rfl
def onMp (k : OK) (f : List (AV × AV) → Option γ) : Option γ := match k with
  | .map l => f l
  | _ => none
theorem onMp_map {l : List (AV × AV)} {f : List (AV × AV) → Option γ} : onMp (.map l) f = f l := _root_.id rfl
/-! ### Lists -/
theorem lgz {a d : α} {l : List α} : (a :: l).getD 0 d = a := _root_.id rfl
theorem lgs {a d : α} {l : List α} {n : Nat} : (a :: l).getD (n + 1) d = l.getD n d := _root_.id rfl
theorem lg8 {a0 a1 a2 a3 a4 a5 a6 a7 d : α} {l : List α} {n : Nat} : (a0 :: a1 :: a2 :: a3 :: a4 :: a5 :: a6 :: a7 :: l).getD (n + 8) d = l.getD n d := _root_.id rfl
theorem lgn {d : α} {n : Nat} : ([] : List α).getD n d = d := _root_.id rfl
theorem lqz {a : α} {l : List α} : (a :: l)[0]? = some a := _root_.id rfl
theorem lqs {a : α} {l : List α} {n : Nat} : (a :: l)[n + 1]? = l[n]? := _root_.id rfl
theorem lq8 {a0 a1 a2 a3 a4 a5 a6 a7 : α} {l : List α} {n : Nat} : (a0 :: a1 :: a2 :: a3 :: a4 :: a5 :: a6 :: a7 :: l)[n + 8]? = l[n]? := _root_.id rfl
theorem lqn {n : Nat} : ([] : List α)[n]? = none := _root_.id rfl
theorem lsz {a x : α} {l : List α} : (a :: l).set 0 x = x :: l := _root_.id rfl
theorem lss {a x : α} {l : List α} {n : Nat} : (a :: l).set (n + 1) x = a :: l.set n x := _root_.id rfl
theorem ls8 {a0 a1 a2 a3 a4 a5 a6 a7 x : α} {l : List α} {n : Nat} : (a0 :: a1 :: a2 :: a3 :: a4 :: a5 :: a6 :: a7 :: l).set (n + 8) x = a0 :: a1 :: a2 :: a3 :: a4 :: a5 :: a6 :: a7 :: l.set n x := _root_.id rfl
theorem lsn {x : α} {n : Nat} : ([] : List α).set n x = [] := _root_.id rfl
/-! ### Environments -/
section
variable {ts : List AV} {os : List AObj}
theorem get_t {n : Nat} : Env.get ⟨ts, os⟩ (.t n) = ts.getD n .unk := _root_.id rfl
theorem get_c {e : Env} {A : AV} : e.get (.c A) = A := _root_.id rfl
theorem tmps_mk : Env.tmps ⟨ts, os⟩ = ts := _root_.id rfl
theorem objs_mk : Env.objs ⟨ts, os⟩ = os := _root_.id rfl
theorem put_some {d : Nat} {A : AV} : Env.put ⟨ts, os⟩ (some d) A = ⟨ts.set d A, os⟩ := _root_.id rfl
theorem put_none {e : Env} {A : AV} : Env.put e none A = e := _root_.id rfl
theorem setObj_mk {d : Nat} {o : AObj} : Env.setObj ⟨ts, os⟩ d o = ⟨ts, os.set d o⟩ := _root_.id rfl
/-- How often a cell's header was told anew. -/
def verL (vs : List (List Rec)) (q : Path) (j : Nat) : Nat := ((vs.getD (top q j) []).filter fun r => covers r q j).length
theorem ver_mk {g : Nat} {vs : List (List Rec)} {k : OK} {q : Path} {j : Nat} : AObj.ver ⟨g, vs, k⟩ q j = verL vs q j := _root_.id rfl
theorem verL_eq {vs : List (List Rec)} {q : Path} {j : Nat} : verL vs q j = ((vs.getD (top q j) []).filter fun r => covers r q j).length := _root_.id rfl
theorem verL_nil {q : Path} {j : Nat} : verL [] q j = 0 := _root_.id rfl
theorem top_nil {j : Nat} : top [] j = j := _root_.id rfl
theorem top_cons {s : Step} {q : Path} {j : Nat} : top (s :: q) j = top q s.1 := _root_.id rfl
theorem obj_mk {d g : Nat} {f : AObj → Option γ} : ob (Env.obj ⟨ts, os⟩ d g) f = obO (os[d]?) (fun g' vs k => if g' = g then f ⟨g', vs, k⟩ else none) := by
  simp only [Env.obj]
  cases os[d]? with
  | none => rfl
  | some o => simp only [obO]; split <;> rfl
theorem cellR_mk {d g v : Nat} {q : Path} {j : Nat} : Env.cellR ⟨ts, os⟩ d g v q j = obO (os[d]?) (fun g' vs k => if g' = g then (if verL vs q j = v then onCl k (fun l => ob (elemsAt l q) fun m => m[j]?) else none) else none) := by
  simp only [Env.cellR, Env.obj]
  cases os[d]? with
  | none => rfl
  | some o =>
    obtain ⟨g', vs, k⟩ := o
    simp only [obO]
    by_cases h : g' = g
    · simp only [h, if_true, ver_mk]
      split
      · cases k <;> simp only [OK.cells, onCl, ob] <;> rename_i l <;> cases elemsAt l q <;> rfl
      · rfl
    · simp only [h, if_false]
theorem elemsAt_nil {l : List AV} : elemsAt l [] = some l := _root_.id rfl
theorem elemsAt_eq {l : List AV} {s : Step} {q : Path} : elemsAt l (s :: q) = ob (elemsAt l q) (fun m => ob (m[s.1]?) fun A => onRow A fun _ c r => if c = s.2.1 then r[s.2.2]? else none) := by
  simp only [elemsAt]
  cases elemsAt l q with
  | none => rfl
  | some m =>
    simp only [ob]
    cases m[s.1]? with
    | none => rfl
    | some A => cases A <;> rfl
theorem cellsP_nil {d g v : Nat} : Env.cellsP ⟨ts, os⟩ d g v [] = obO (os[d]?) (fun g' _ k => if g' = g then onBx k some else none) := by
  simp only [Env.cellsP, Env.obj]
  cases os[d]? with
  | none => rfl
  | some o =>
    obtain ⟨g', vs, k⟩ := o
    simp only [obO]
    by_cases h : g' = g
    · simp only [h, if_true]; cases k <;> rfl
    · simp only [h, if_false]
theorem cellsP_cons {d g v : Nat} {s : Step} {q : Path} : Env.cellsP ⟨ts, os⟩ d g v (s :: q) = obO (os[d]?) (fun g' vs k => if g' = g then (if verL vs q s.1 = v then onCl k (fun l => elemsAt l (s :: q)) else none) else none) := by
  simp only [Env.cellsP, Env.obj]
  cases os[d]? with
  | none => rfl
  | some o =>
    obtain ⟨g', vs, k⟩ := o
    simp only [obO]
    by_cases h : g' = g
    · simp only [h, if_true, ver_mk]; split
      · cases k <;> rfl
      · rfl
    · simp only [h, if_false]
def verO (o : Option AObj) (q : Path) (j : Nat) : Nat := match o with
  | some o => o.ver q j
  | none => 0
theorem verOf_mk {d : Nat} {q : Path} {j : Nat} : Env.verOf ⟨ts, os⟩ d q j = verO (os[d]?) q j := _root_.id rfl
theorem verO_some {g : Nat} {vs : List (List Rec)} {k : OK} {q : Path} {j : Nat} : verO (some ⟨g, vs, k⟩) q j = verL vs q j := _root_.id rfl
theorem recs_n {g : Nat} {vs : List (List Rec)} {k : OK} {q : Path} : AObj.recs ⟨g, vs, k⟩ q none = vs := _root_.id rfl
theorem recs_s {g : Nat} {vs : List (List Rec)} {k : OK} {q : Path} {j n : Nat} : AObj.recs ⟨g, vs, k⟩ q (some (j, n)) = addRec vs q j n := _root_.id rfl
theorem addRec_z {vs : List (List Rec)} {j : Nat} : addRec vs [] j 0 = vs := _root_.id rfl
theorem addRec_s {vs : List (List Rec)} {j n : Nat} : addRec vs [] j (n + 1) = (addRec vs [] j n).set (j + n) (([], j + n, 1) :: (addRec vs [] j n).getD (j + n) []) := by
  simp only [addRec, List.range_succ, List.foldl_append, List.foldl_cons, List.foldl_nil]
theorem addRec_c {vs : List (List Rec)} {s : Step} {q : Path} {j n : Nat} : addRec vs (s :: q) j n = vs.set (top q s.1) ((s :: q, j, n) :: vs.getD (top q s.1) []) := _root_.id rfl
theorem addBelow_eq {vs : List (List Rec)} {q : Path} {j : Nat} : addBelow vs q j = vs.set (top q j) ((q, j, 0) :: vs.getD (top q j) []) := _root_.id rfl
theorem turn_mk {d : Nat} {q : Path} {st : Option (Nat × Nat)} {f : List AV → List AV} : Env.turn ⟨ts, os⟩ d q st f = obO (os[d]?) (fun g vs k => onCl k fun l => some ⟨ts, os.set d ⟨g, AObj.recs ⟨g, vs, k⟩ q st, k.withCells (setE l q f)⟩⟩) := by
  simp only [Env.turn]
  cases os[d]? with
  | none => rfl
  | some o => obtain ⟨g, vs, k⟩ := o; cases k <;> rfl
theorem wc_box {l m : List AV} : OK.withCells (.box l) m = .box m := _root_.id rfl
theorem wc_val {l m : List AV} : OK.withCells (.val l) m = .val m := _root_.id rfl
theorem setE_nil {l : List AV} {f : List AV → List AV} : setE l [] f = f l := _root_.id rfl
theorem setE_eq {l : List AV} {s : Step} {q : Path} {f : List AV → List AV} : setE l (s :: q) f = setE l q (fun m => m.set s.1 (setRowElem s f (m.getD s.1 .unk))) := _root_.id rfl
theorem setRow_row {s : Step} {f : List AV → List AV} {E c : Nat} {r : List (List AV)} : setRowElem s f (.row E c r) = .row E c (r.set s.2.2 (f (r.getD s.2.2 []))) := _root_.id rfl
theorem lt_len {d : Nat} (h : os[d]? = none) : ¬ d < os.length := by
  intro hh; rw [List.getElem?_eq_getElem hh] at h; cases h
theorem newRow_mk {d E c : Nat} {l : List (List AV)} : Env.newRow ⟨ts, os⟩ (some d) E c l = obO (os[d]?) (fun g _ _ => some ⟨ts.set d (.ref d (g + 1) 0 [] 0), os.set d ⟨g + 1, [[]], .val [.row E c l]⟩⟩) := by
  simp only [Env.newRow, Env.make, Env.gen]
  cases h : os[d]? with
  | none => rw [if_neg (lt_len h)]; rfl
  | some o => rw [if_pos (lt_of_get h)]; rfl
theorem newBox_mk {d : Nat} {l : List AV} : Env.newBox ⟨ts, os⟩ (some d) l = obO (os[d]?) (fun g _ _ => some ⟨ts.set d (.ptr d (g + 1) 0 [] 0), os.set d ⟨g + 1, List.replicate l.length [], .box l⟩⟩) := by
  simp only [Env.newBox, Env.make, Env.gen]
  cases h : os[d]? with
  | none => rw [if_neg (lt_len h)]; rfl
  | some o => rw [if_pos (lt_of_get h)]; rfl
end
/-! ### Taking -/
theorem takes_nil {e : Env} : e.takes [] = some ([], e) := _root_.id rfl
theorem takes_cons {e : Env} {A : AV} {l : List AV} : e.takes (A :: l) = ob2 (e.take1 A) (fun B e1 => ob2 (e1.takes l) fun m e2 => some (B :: m, e2)) := by
  simp only [Env.takes]
  cases e.take1 A with
  | none => rfl
  | some q =>
    obtain ⟨B, e1⟩ := q
    simp only [ob2]
    cases e1.takes l <;> rfl
def takeR (e : Env) (d : Nat) (q : Path) (j : Nat) (x : Option AV) : Option (AV × Env) := match x with
  | some (.row E c l) => ob (e.turn d q none (fun m => m.set j .unk)) fun e' => some (.row E c l, e')
  | some (.sl l) => some (.sl l, e)
  | _ => none
theorem take1_ref {e : Env} {d g v : Nat} {q : Path} {j : Nat} : e.take1 (.ref d g v q j) = takeR e d q j (e.cellR d g v q j) := by
  simp only [Env.take1, takeR]
  cases e.cellR d g v q j with
  | none => rfl
  | some A =>
    cases A <;> try rfl
    simp only [ob]
    cases e.turn d q none (fun m => m.set j .unk) <;> rfl
theorem takeR_row {e : Env} {d : Nat} {q : Path} {j E c : Nat} {l : List (List AV)} : takeR e d q j (some (.row E c l)) = ob (e.turn d q none (fun m => m.set j .unk)) fun e' => some (.row E c l, e') := _root_.id rfl
theorem takeR_sl {e : Env} {d : Nat} {q : Path} {j : Nat} {l : List (List AV)} : takeR e d q j (some (.sl l)) = some (.sl l, e) := _root_.id rfl
theorem congr_takeR {e : Env} {d : Nat} {q : Path} {j : Nat} {x x' : Option AV} (h : x = x') : takeR e d q j x = takeR e d q j x' := by rw [h]
theorem take1_int {e : Env} {k : IntKind} {n : Int} : e.take1 (.int k n) = some (.int k n, e) := _root_.id rfl
theorem take1_bool {e : Env} {b : Bool} : e.take1 (.bool b) = some (.bool b, e) := _root_.id rfl
theorem take1_str {e : Env} {s : ByteArray} : e.take1 (.str s) = some (.str s, e) := _root_.id rfl
theorem take1_nil {e : Env} : e.take1 .nil = some (.nil, e) := _root_.id rfl
theorem take1_nilp {e : Env} : e.take1 .nilp = some (.nilp, e) := _root_.id rfl
theorem take1_sl {e : Env} {l : List (List AV)} : e.take1 (.sl l) = some (.sl l, e) := _root_.id rfl
theorem take1_fn {e : Env} {f : Nat} {l : List AV} : e.take1 (.fn f l) = some (.fn f l, e) := _root_.id rfl
theorem parts_agg {l : List AV} : partsT (.agg l) = some l := _root_.id rfl
theorem parts_int {k : IntKind} {n : Int} : partsT (.int k n) = some [.int k n] := _root_.id rfl
theorem parts_bool {b : Bool} : partsT (.bool b) = some [.bool b] := _root_.id rfl
theorem parts_str {s : ByteArray} : partsT (.str s) = some [.str s] := _root_.id rfl
theorem parts_nil : partsT .nil = some [.nil] := _root_.id rfl
theorem parts_nilp : partsT .nilp = some [.nilp] := _root_.id rfl
theorem parts_sl {l : List (List AV)} : partsT (.sl l) = some [.sl l] := _root_.id rfl
theorem parts_fn {f : Nat} {l : List AV} : partsT (.fn f l) = some [.fn f l] := _root_.id rfl
theorem parts_ref {d g v : Nat} {q : Path} {j : Nat} : partsT (.ref d g v q j) = some [.ref d g v q j] := _root_.id rfl
/-! ### Operations that give a value -/
theorem act_mv {e : Env} {x : X} : act e (.mv x) = some (e.get x) := _root_.id rfl
theorem act_pick {e : Env} {c a b : X} : act e (.pick c a b) = onBool (e.get c) (fun v => some (if v = true then e.get a else e.get b)) := by
  simp only [act, onBool]; cases e.get c <;> rfl
theorem fill_nil {e : Env} {z : List AV} : fillT e z [] = some z := _root_.id rfl
theorem fill_cons {e : Env} {z : List AV} {off n : Nat} {x : X} {ps : List (Nat × Nat × X)} : fillT e z ((off, n, x) :: ps) = ob (partsT (e.get x)) (fun l => if l.length = n ∧ off + n ≤ z.length then fillT e (splice z off l) ps else none) := by
  simp only [fillT]; cases partsT (e.get x) <;> rfl
theorem act_bld {e : Env} {z : List AV} {ps : List (Nat × Nat × X)} : act e (.bld z ps) = ob (fillT e z ps) (fun l => some (.agg l)) := by
  simp only [act]; cases fillT e z ps <;> rfl
def ldV (e : Env) (A : AV) : Option AV := match A with
  | .ptr d g v q j => ob (e.cellsP d g v q) fun m => ob (m[j]?) fun A => some (expo d g (e.verOf d q j) q j A)
  | .el l => ob (l[0]?) fun A => if A.pure = true then some A else none
  | _ => none
theorem act_ld1 {e : Env} {p : X} : act e (.ld none p) = ldV e (e.get p) := by
  simp only [act, ldV]
  cases e.get p <;> try rfl
  · rename_i l; simp only [ob]; cases l[0]? <;> rfl
  · rename_i d g v q j
    simp only [ob]
    cases e.cellsP d g v q with
    | none => rfl
    | some m => dsimp only; cases m[j]? <;> rfl
theorem ldV_ptr {e : Env} {d g v : Nat} {q : Path} {j : Nat} : ldV e (.ptr d g v q j) = ob (e.cellsP d g v q) (fun m => ob (m[j]?) fun A => some (expo d g (e.verOf d q j) q j A)) := _root_.id rfl
theorem ldV_el {e : Env} {l : List AV} : ldV e (.el l) = ob (l[0]?) (fun A => if A.pure = true then some A else none) := _root_.id rfl
theorem congr_ldV {e : Env} {A A' : AV} (h : A = A') : ldV e A = ldV e A' := by rw [h]
theorem expo_row {d g v : Nat} {q : Path} {j E c : Nat} {l : List (List AV)} : expo d g v q j (.row E c l) = .ref d g v q j := _root_.id rfl
theorem expo_int {d g v : Nat} {q : Path} {j : Nat} {k : IntKind} {n : Int} : expo d g v q j (.int k n) = .int k n := _root_.id rfl
theorem expo_bool {d g v : Nat} {q : Path} {j : Nat} {b : Bool} : expo d g v q j (.bool b) = .bool b := _root_.id rfl
theorem expo_str {d g v : Nat} {q : Path} {j : Nat} {s : ByteArray} : expo d g v q j (.str s) = .str s := _root_.id rfl
theorem expo_nil {d g v : Nat} {q : Path} {j : Nat} : expo d g v q j .nil = .nil := _root_.id rfl
theorem expo_nilp {d g v : Nat} {q : Path} {j : Nat} : expo d g v q j .nilp = .nilp := _root_.id rfl
theorem expo_sl {d g v : Nat} {q : Path} {j : Nat} {l : List (List AV)} : expo d g v q j (.sl l) = .sl l := _root_.id rfl
theorem expo_fn {d g v : Nat} {q : Path} {j f : Nat} {l : List AV} : expo d g v q j (.fn f l) = .fn f l := _root_.id rfl
theorem expo_unk {d g v : Nat} {q : Path} {j : Nat} : expo d g v q j .unk = .unk := _root_.id rfl
theorem expo_pure {d g v : Nat} {q : Path} {j : Nat} {A : AV} (h : A.pure = true) : expo d g v q j A = A := by
  cases A <;> first | rfl | (cases h; done)
theorem expos_nil {e : Env} {d g : Nat} {q : Path} {j : Nat} : expos e d g q [] j = [] := _root_.id rfl
theorem expos_cons {e : Env} {d g : Nat} {q : Path} {A : AV} {l : List AV} {j : Nat} : expos e d g q (A :: l) j = expo d g (e.verOf d q j) q j A :: expos e d g q l (j + 1) := _root_.id rfl
def ldN (e : Env) (n : Nat) (A : AV) : Option AV := match A with
  | .ptr d g v q j => ob (e.cellsP d g v q) fun m => if j + n ≤ m.length then some (.agg (expos e d g q ((m.drop j).take n) j)) else none
  | .el l => if n ≤ l.length ∧ (l.take n).all AV.pure = true then some (.agg (l.take n)) else none
  | _ => none
theorem act_ldn {e : Env} {n : Nat} {p : X} : act e (.ld (some n) p) = ldN e n (e.get p) := by
  simp only [act, ldN]
  cases e.get p <;> try rfl
  rename_i d g v q j
  simp only [ob]
  cases e.cellsP d g v q <;> rfl
theorem ldN_ptr {e : Env} {n d g v : Nat} {q : Path} {j : Nat} : ldN e n (.ptr d g v q j) = ob (e.cellsP d g v q) (fun m => if j + n ≤ m.length then some (.agg (expos e d g q ((m.drop j).take n) j)) else none) := _root_.id rfl
theorem ldN_el {e : Env} {n : Nat} {l : List AV} : ldN e n (.el l) = if n ≤ l.length ∧ (l.take n).all AV.pure = true then some (.agg (l.take n)) else none := _root_.id rfl
theorem congr_ldN {e : Env} {n : Nat} {A A' : AV} (h : A = A') : ldN e n A = ldN e n A' := by rw [h]
def faV (off n : Nat) (A : AV) : Option AV := match A with
  | .ptr d g v q j => some (.ptr d g v q (j + off))
  | .el l => if n ≠ 0 then some (.el ((l.drop off).take n)) else none
  | _ => none
theorem act_fa {e : Env} {off n : Nat} {p : X} : act e (.fa off n p) = faV off n (e.get p) := by
  simp only [act, faV]; cases e.get p <;> rfl
theorem faV_ptr {off n d g v : Nat} {q : Path} {j : Nat} : faV off n (.ptr d g v q j) = some (.ptr d g v q (j + off)) := _root_.id rfl
theorem faV_el {off n : Nat} {l : List AV} : faV off n (.el l) = if n ≠ 0 then some (.el ((l.drop off).take n)) else none := _root_.id rfl
def iaR (c d g v : Nat) (q : Path) (j : Nat) (n : Int) (x : Option AV) : Option AV := match x with
  | some (.row _ c' l) => if 0 ≤ n ∧ n < l.length ∧ c' = c then some (.ptr d g v ((j, c, n.toNat) :: q) 0) else none
  | some (.sl l) => if 0 ≤ n ∧ n < l.length then (if (l.getD n.toNat []).length = c then some (.el (l.getD n.toNat [])) else none) else none
  | _ => none
def iaV (e : Env) (c : Nat) (n : Int) (A : AV) : Option AV := match A with
  | .sl l => if 0 ≤ n ∧ n < l.length then (if (l.getD n.toNat []).length = c then some (.el (l.getD n.toNat [])) else none) else none
  | .ref d g v q j => iaR c d g v q j n (e.cellR d g v q j)
  | _ => none
theorem act_ia {e : Env} {c : Nat} {x i : X} : act e (.ia c x i) = onI (e.get i) (fun _ n => iaV e c n (e.get x)) := by
  simp only [act, onI]
  cases e.get i <;> rfl
theorem iaV_sl {e : Env} {c : Nat} {n : Int} {l : List (List AV)} : iaV e c n (.sl l) = if 0 ≤ n ∧ n < l.length then (if (l.getD n.toNat []).length = c then some (.el (l.getD n.toNat [])) else none) else none := _root_.id rfl
theorem iaV_ref {e : Env} {c : Nat} {n : Int} {d g v : Nat} {q : Path} {j : Nat} : iaV e c n (.ref d g v q j) = iaR c d g v q j n (e.cellR d g v q j) := _root_.id rfl
theorem congr_iaV {e : Env} {c : Nat} {n n' : Int} {A A' : AV} (h : A = A') (h' : n = n') : iaV e c n A = iaV e c n' A' := by rw [h, h']
theorem iaR_row {c d g v : Nat} {q : Path} {j : Nat} {n : Int} {E c' : Nat} {l : List (List AV)} : iaR c d g v q j n (some (.row E c' l)) = if 0 ≤ n ∧ n < l.length ∧ c' = c then some (.ptr d g v ((j, c, n.toNat) :: q) 0) else none := _root_.id rfl
theorem iaR_sl {c d g v : Nat} {q : Path} {j : Nat} {n : Int} {l : List (List AV)} : iaR c d g v q j n (some (.sl l)) = if 0 ≤ n ∧ n < l.length then (if (l.getD n.toNat []).length = c then some (.el (l.getD n.toNat [])) else none) else none := _root_.id rfl
theorem act_ix {e : Env} {x i : X} : act e (.ix x i) = onS (e.get x) (fun s => onI (e.get i) fun _ n => if 0 ≤ n ∧ n < s.size then some (.int .u8 (byteAt s n.toNat)) else none) := by
  simp only [act, onS, onI]; cases e.get x <;> try rfl
  cases e.get i <;> rfl
theorem ia_none {n : Nat} : intArg n none = some (n : Int) := _root_.id rfl
theorem ia_int {n : Nat} {k : IntKind} {i : Int} : intArg n (some (.int k i)) = some i := _root_.id rfl
theorem act_subs {e : Env} {x : X} {lo hi : Option X} : act e (.subs x lo hi) = onS (e.get x) (fun s => ob (intArg 0 (lo.map e.get)) fun l => ob (intArg s.size (hi.map e.get)) fun h => if 0 ≤ l ∧ l ≤ h ∧ h ≤ s.size then some (.str (s.extract l.toNat h.toNat)) else none) := by
  simp only [act, onS, ob]; cases e.get x <;> try rfl
  rename_i s
  simp only
  cases intArg 0 (lo.map e.get) <;> try rfl
  simp only
  cases intArg s.size (hi.map e.get) <;> rfl
theorem omap_none {e : Env} : Option.map e.get none = none := _root_.id rfl
theorem omap_some {e : Env} {x : X} : Option.map e.get (some x) = some (e.get x) := _root_.id rfl
theorem act_bin {e : Env} {op : BinOp} {x y : X} : act e (.bin op x y) = binA op (e.get x) (e.get y) := _root_.id rfl
theorem bin_add {k : IntKind} {a b : Int} : binA .add (.int k a) (.int k b) = some (.int k (k.wrap (a + b))) := by simp [binA]
theorem bin_sub {k : IntKind} {a b : Int} : binA .sub (.int k a) (.int k b) = some (.int k (k.wrap (a - b))) := by simp [binA]
theorem bin_mul {k : IntKind} {a b : Int} : binA .mul (.int k a) (.int k b) = some (.int k (k.wrap (a * b))) := by simp [binA]
theorem bin_quo {k : IntKind} {a b : Int} : binA .quo (.int k a) (.int k b) = if b = 0 then none else some (.int k (k.wrap (a.tdiv b))) := by simp [binA]
theorem bin_rem {k : IntKind} {a b : Int} : binA .rem (.int k a) (.int k b) = if b = 0 then none else some (.int k (a.tmod b)) := by simp [binA]
theorem bin_and {k : IntKind} {a b : Int} : binA .and (.int k a) (.int k b) = some (.int k (k.wrap ((BitVec.ofInt k.bits a &&& BitVec.ofInt k.bits b).toNat))) := by simp [binA]
theorem bin_or {k : IntKind} {a b : Int} : binA .or (.int k a) (.int k b) = some (.int k (k.wrap ((BitVec.ofInt k.bits a ||| BitVec.ofInt k.bits b).toNat))) := by simp [binA]
theorem bin_xor {k : IntKind} {a b : Int} : binA .xor (.int k a) (.int k b) = some (.int k (k.wrap ((BitVec.ofInt k.bits a ^^^ BitVec.ofInt k.bits b).toNat))) := by simp [binA]
theorem bin_andNot {k : IntKind} {a b : Int} : binA .andNot (.int k a) (.int k b) = some (.int k (k.wrap ((BitVec.ofInt k.bits a &&& ~~~ BitVec.ofInt k.bits b).toNat))) := by simp [binA]
theorem bin_eql {k : IntKind} {a b : Int} : binA .eql (.int k a) (.int k b) = some (.bool (a == b)) := by simp [binA]
theorem bin_neq {k : IntKind} {a b : Int} : binA .neq (.int k a) (.int k b) = some (.bool (a != b)) := by simp [binA]
theorem bin_lss {k : IntKind} {a b : Int} : binA .lss (.int k a) (.int k b) = some (.bool (decide (a < b))) := by simp [binA]
theorem bin_leq {k : IntKind} {a b : Int} : binA .leq (.int k a) (.int k b) = some (.bool (decide (a ≤ b))) := by simp [binA]
theorem bin_gtr {k : IntKind} {a b : Int} : binA .gtr (.int k a) (.int k b) = some (.bool (decide (a > b))) := by simp [binA]
theorem bin_geq {k : IntKind} {a b : Int} : binA .geq (.int k a) (.int k b) = some (.bool (decide (a ≥ b))) := by simp [binA]
theorem bin_shl {k k' : IntKind} {a b : Int} : binA .shl (.int k a) (.int k' b) = if b < 0 then none else some (.int k (k.wrap (a * 2 ^ (min b.toNat k.bits)))) := _root_.id rfl
theorem bin_shr {k k' : IntKind} {a b : Int} : binA .shr (.int k a) (.int k' b) = if b < 0 then none else some (.int k (a.fdiv (2 ^ (min b.toNat k.bits)))) := _root_.id rfl
theorem bins_add {a b : ByteArray} : binA .add (.str a) (.str b) = if a.size + b.size ≤ 9223372036854775807 then some (.str (a ++ b)) else none := _root_.id rfl
theorem bins_eql {a b : ByteArray} : binA .eql (.str a) (.str b) = some (.bool (a.toList == b.toList)) := _root_.id rfl
theorem bins_neq {a b : ByteArray} : binA .neq (.str a) (.str b) = some (.bool (!(a.toList == b.toList))) := _root_.id rfl
theorem bins_lss {a b : ByteArray} : binA .lss (.str a) (.str b) = some (.bool (Op.bytesLess a.toList b.toList)) := _root_.id rfl
theorem bins_leq {a b : ByteArray} : binA .leq (.str a) (.str b) = some (.bool (Op.bytesLess a.toList b.toList || a.toList == b.toList)) := _root_.id rfl
theorem bins_gtr {a b : ByteArray} : binA .gtr (.str a) (.str b) = some (.bool (!(Op.bytesLess a.toList b.toList || a.toList == b.toList))) := _root_.id rfl
theorem bins_geq {a b : ByteArray} : binA .geq (.str a) (.str b) = some (.bool (!Op.bytesLess a.toList b.toList)) := _root_.id rfl
def onBool2 (A B : AV) (f : Bool → Bool → Option γ) : Option γ := match A, B with
  | .bool a, .bool b => f a b
  | _, _ => none
theorem onBool2_bool {a b : Bool} {f : Bool → Bool → Option γ} : onBool2 (.bool a) (.bool b) f = f a b := _root_.id rfl
theorem act_beq_f {e : Env} {x y : X} : act e (.beq false x y) = onBool2 (e.get x) (e.get y) (fun a b => some (.bool (a == b))) := by
  simp only [act, onBool2]; cases e.get x <;> try rfl
theorem act_beq_t {e : Env} {x y : X} : act e (.beq true x y) = onBool2 (e.get x) (e.get y) (fun a b => some (.bool (!(a == b)))) := by
  simp only [act, onBool2]; cases e.get x <;> try rfl
theorem act_eqs_f {e : Env} {ks : List CK} {x y : X} : act e (.eqs false ks x y) = onAg (e.get x) (fun l => onAg (e.get y) fun m => ob (sameCells ks l m) fun r => some (.bool r)) := by
  simp only [act, onAg]; cases e.get x <;> try rfl
  cases e.get y <;> try rfl
  rename_i l m
  simp only [ob]; cases sameCells ks l m <;> rfl
theorem act_eqs_t {e : Env} {ks : List CK} {x y : X} : act e (.eqs true ks x y) = onAg (e.get x) (fun l => onAg (e.get y) fun m => ob (sameCells ks l m) fun r => some (.bool (!r))) := by
  simp only [act, onAg]; cases e.get x <;> try rfl
  cases e.get y <;> try rfl
  rename_i l m
  simp only [ob]; cases sameCells ks l m <;> rfl
theorem same_nil : sameCells [] [] [] = some true := _root_.id rfl
theorem same_int {ks : List CK} {l m : List AV} {k : IntKind} {a b : Int} : sameCells (.int :: ks) (.int k a :: l) (.int k b :: m) = ob (sameCells ks l m) (fun r => some (a == b && r)) := by
  simp only [sameCells, if_true]; cases sameCells ks l m <;> rfl
theorem same_bool {ks : List CK} {l m : List AV} {a b : Bool} : sameCells (.bool :: ks) (.bool a :: l) (.bool b :: m) = ob (sameCells ks l m) (fun r => some (a == b && r)) := by
  simp only [sameCells]; cases sameCells ks l m <;> rfl
theorem same_str {ks : List CK} {l m : List AV} {a b : ByteArray} : sameCells (.str :: ks) (.str a :: l) (.str b :: m) = ob (sameCells ks l m) (fun r => some (a.toList == b.toList && r)) := by
  simp only [sameCells]; cases sameCells ks l m <;> rfl
theorem act_un {e : Env} {op : UnOp} {x : X} : act e (.un op x) = unA op (e.get x) := _root_.id rfl
theorem un_not {b : Bool} : unA .not (.bool b) = some (.bool (!b)) := _root_.id rfl
theorem un_neg {k : IntKind} {n : Int} : unA .neg (.int k n) = some (.int k (k.wrap (0 - n))) := _root_.id rfl
theorem act_cvi {e : Env} {k : IntKind} {x : X} : act e (.cvi k x) = onI (e.get x) (fun _ n => some (.int k (k.wrap n))) := by
  simp only [act, onI]; cases e.get x <;> rfl
theorem act_cvs {e : Env} {x : X} : act e (.cvs x) = onS (e.get x) (fun s => some (.str s)) := by
  simp only [act, onS]; cases e.get x <;> rfl
theorem act_cvbs {e : Env} {x : X} : act e (.cvbs x) = ob (e.elems (e.get x)) (fun l => ob (bytesOf? l) fun bs => some (.str ⟨bs.toArray⟩)) := by
  simp only [act, ob]
  cases e.elems (e.get x) with
  | none => rfl
  | some l => simp only; cases bytesOf? l <;> rfl
theorem act_lens {e : Env} {x : X} : act e (.lens x) = onS (e.get x) (fun s => some (.int .i64 s.size)) := by
  simp only [act, onS]; cases e.get x <;> rfl
theorem act_len {e : Env} {x : X} : act e (.len x) = ob (e.elems (e.get x)) (fun l => some (.int .i64 l.length)) := by
  simp only [act, ob]; cases e.elems (e.get x) <;> rfl
def elR (x : Option AV) : Option (List (List AV)) := match x with
  | some (.row _ _ l) => some l
  | some (.sl l) => some l
  | _ => none
theorem elems_nil {e : Env} : e.elems .nil = some [] := _root_.id rfl
theorem elems_sl {e : Env} {l : List (List AV)} : e.elems (.sl l) = some l := _root_.id rfl
theorem elems_ref {e : Env} {d g v : Nat} {q : Path} {j : Nat} : e.elems (.ref d g v q j) = elR (e.cellR d g v q j) := by
  simp only [Env.elems, elR]
  cases e.cellR d g v q j with
  | none => rfl
  | some A => cases A <;> rfl
theorem elR_row {E c : Nat} {l : List (List AV)} : elR (some (.row E c l)) = some l := _root_.id rfl
theorem elR_sl {l : List (List AV)} : elR (some (.sl l)) = some l := _root_.id rfl
theorem act_mnx {e : Env} {mx : Bool} {x y : X} : act e (.mnx mx x y) = mnxA mx (e.get x) (e.get y) := _root_.id rfl
theorem mnx_t {k : IntKind} {x y : Int} : mnxA true (.int k x) (.int k y) = some (.int k (if y > x then y else x)) := by simp [mnxA]
theorem mnx_f {k : IntKind} {x y : Int} : mnxA false (.int k x) (.int k y) = some (.int k (if y < x then y else x)) := by simp [mnxA]
theorem act_ext {e : Env} {x : X} {i : Nat} : act e (.ext x i) = onTu (e.get x) (fun l => l[i]?) := by
  simp only [act, onTu]; cases e.get x <;> rfl
def nckV (A : AV) : Option AV := match A with
  | .ptr d g v q j => some (.ptr d g v q j)
  | .el l => some (.el l)
  | _ => none
theorem act_nck {e : Env} {x : X} : act e (.nck x) = nckV (e.get x) := by
  simp only [act, nckV]; cases e.get x <;> rfl
theorem nckV_ptr {d g v : Nat} {q : Path} {j : Nat} : nckV (.ptr d g v q j) = some (.ptr d g v q j) := _root_.id rfl
theorem nckV_el {l : List AV} : nckV (.el l) = some (.el l) := _root_.id rfl
def isP (ne : Bool) (A : AV) : Option AV := match A with
  | .nilp => some (.bool (!ne))
  | .ptr .. => some (.bool ne)
  | .el _ => some (.bool ne)
  | _ => none
theorem act_isnp {e : Env} {ne : Bool} {x : X} : act e (.isn true ne x) = isP ne (e.get x) := by
  simp only [act, isP]; cases e.get x <;> rfl
theorem isP_nilp {ne : Bool} : isP ne .nilp = some (.bool (!ne)) := _root_.id rfl
theorem isP_ptr {ne : Bool} {d g v : Nat} {q : Path} {j : Nat} : isP ne (.ptr d g v q j) = some (.bool ne) := _root_.id rfl
theorem isP_el {ne : Bool} {l : List AV} : isP ne (.el l) = some (.bool ne) := _root_.id rfl
def isS (e : Env) (ne : Bool) (A : AV) : Option AV := match A with
  | .nil => some (.bool (!ne))
  | A => ob (e.elems A) fun l => if l = [] then none else some (.bool ne)
theorem act_isns {e : Env} {ne : Bool} {x : X} : act e (.isn false ne x) = isS e ne (e.get x) := by
  have : ∀ A : AV, (match e.elems A with | some (_ :: _) => some (AV.bool ne) | _ => none) = ob (e.elems A) fun l => if l = [] then none else some (.bool ne) := by
    intro A
    cases e.elems A with
    | none => rfl
    | some l => cases l <;> simp [ob]
  simp only [act, isS]
  cases e.get x <;> first | rfl | exact this _
theorem isS_nil {e : Env} {ne : Bool} : isS e ne .nil = some (.bool (!ne)) := _root_.id rfl
theorem isS_sl {e : Env} {ne : Bool} {l : List (List AV)} : isS e ne (.sl l) = if l = [] then none else some (.bool ne) := _root_.id rfl
theorem isS_ref {e : Env} {ne : Bool} {d g v : Nat} {q : Path} {j : Nat} : isS e ne (.ref d g v q j) = ob (e.elems (.ref d g v q j)) (fun l => if l = [] then none else some (.bool ne)) := _root_.id rfl
def onMap (e : Env) (A : AV) (f : List (AV × AV) → Option γ) : Option γ := match A with
  | .mref d g => ob (e.obj d g) fun o => onMp o.k f
  | .raw (.map none) => f []
  | _ => none
theorem onMap_mref {e : Env} {d g : Nat} {f : List (AV × AV) → Option γ} : onMap e (.mref d g) f = ob (e.obj d g) (fun o => onMp o.k f) := _root_.id rfl
theorem onMap_none {e : Env} {f : List (AV × AV) → Option γ} : onMap e (.raw (.map none)) f = f [] := _root_.id rfl
theorem congr_onMap {e : Env} {A A' : AV} {f : List (AV × AV) → Option γ} (h : A = A') : onMap e A f = onMap e A' f := by rw [h]
theorem act_lkp_f {e : Env} {z : AV} {kd : Option IntKind} {m k : X} : act e (.lkp z false kd m k) = if keyOk kd (e.get k) = true then onMap e (e.get m) (fun l => ob (mapGet (e.get k) l) fun o => some (o.getD z)) else none := by
  simp only [act]
  split
  · cases e.get m <;> try rfl
    · rename_i d g
      simp only [onMap]
      cases e.obj d g with
      | none => rfl
      | some o =>
        obtain ⟨g, vs, k'⟩ := o
        cases k' <;> try rfl
        rename_i l
        simp only [ob, onMp]
        cases mapGet (e.get k) l with
        | none => rfl
        | some o => cases o <;> rfl
    · rename_i v
      cases v <;> try rfl
      rename_i mm; cases mm <;> rfl
  · rfl
theorem act_lkp_t {e : Env} {z : AV} {kd : Option IntKind} {m k : X} : act e (.lkp z true kd m k) = if keyOk kd (e.get k) = true then onMap e (e.get m) (fun l => ob (mapGet (e.get k) l) fun o => some (.tup [o.getD z, .bool o.isSome])) else none := by
  simp only [act]
  split
  · cases e.get m <;> try rfl
    · rename_i d g
      simp only [onMap]
      cases e.obj d g with
      | none => rfl
      | some o =>
        obtain ⟨g, vs, k'⟩ := o
        cases k' <;> try rfl
        rename_i l
        simp only [ob, onMp]
        cases mapGet (e.get k) l with
        | none => rfl
        | some o => cases o <;> rfl
    · rename_i v
      cases v <;> try rfl
      rename_i mm; cases mm <;> rfl
  · rfl
theorem keyOk_int {k : IntKind} {n : Int} : keyOk (some k) (.int k n) = true := by simp [keyOk]
theorem keyOk_str {s : ByteArray} : keyOk none (.str s) = true := _root_.id rfl
end
end Go.Nv
/- BY VALUE, with trees. Part 50: the evaluator with what follows, for rewriting (3): what turns objects, calls, heads, results. -/
namespace Go.Nv
section
variable {α γ δ β : Type} {R : RT}
theorem isA_nw {o : O} : o.isA = O.isA o := _root_.id rfl
/-! ### Operations that turn objects -/
theorem ev_box {e : Env} {d : Option Nat} {x : X} : evalO R e d (.box x) = ob (partsT (e.get x)) (fun l => ob2 (e.takes l) fun ps e1 => e1.newBox d ps) := by
  simp only [evalO, ob, ob2]
  cases partsT (e.get x) with
  | none => rfl
  | some l => dsimp only; cases e.takes l <;> rfl
theorem ev_new {e : Env} {d : Option Nat} {z : List AV} : evalO R e d (.new z) = e.newBox d z := _root_.id rfl
def stP (e : Env) (n : Nat) (ps : List AV) (p : AV) : Option Env := match p with
  | .ptr d g v q j => ob (e.cellsP d g v q) fun m => if 0 < n ∧ ps.length = n ∧ j + n ≤ m.length then e.turn d q (if ps.all AV.quiet = true then none else some (j, n)) (fun m => splice m j ps) else none
  | _ => none
theorem ev_st {e : Env} {d : Option Nat} {n : Nat} {p x : X} : evalO R e d (.st n p x) = ob (partsT (e.get x)) (fun l => ob2 (e.takes l) fun ps e1 => stP e1 n ps (e.get p)) := by
  simp only [evalO, storeA, ob, ob2]
  cases partsT (e.get x) with
  | none => rfl
  | some l =>
    dsimp only
    cases e.takes l with
    | none => rfl
    | some q =>
      obtain ⟨ps, e1⟩ := q
      dsimp only
      cases e.get p <;> try rfl
      simp only [stP, ob]
      rename_i d g v q j
      cases e1.cellsP d g v q <;> rfl
theorem stP_ptr {e : Env} {n : Nat} {ps : List AV} {d g v : Nat} {q : Path} {j : Nat} : stP e n ps (.ptr d g v q j) = ob (e.cellsP d g v q) (fun m => if 0 < n ∧ ps.length = n ∧ j + n ≤ m.length then e.turn d q (if ps.all AV.quiet = true then none else some (j, n)) (fun m => splice m j ps) else none) := _root_.id rfl
theorem congr_stP {e : Env} {n : Nat} {ps : List AV} {p p' : AV} (h : p = p') : stP e n ps p = stP e n ps p' := by rw [h]
theorem ev_mk {e : Env} {d : Option Nat} {E c by_ : Nat} {z : List AV} {n : X} : evalO R e d (.mk E c by_ z n) = onI (e.get n) (fun _ m => if 0 ≤ m ∧ m * by_ ≤ 140737488355328 ∧ m ≤ 9223372036854775807 then e.newRow d E c (List.replicate m.toNat z) else none) := by
  simp only [evalO, onI]; cases e.get n <;> rfl
theorem litp_nil {e : Env} {c : Nat} : litParts e c [] = some [] := _root_.id rfl
theorem litp_cons {e : Env} {c : Nat} {x : X} {xs : List X} : litParts e c (x :: xs) = ob (partsT (e.get x)) (fun l => if l.length = c then ob (litParts e c xs) (fun m => some (l ++ m)) else none) := by
  simp only [litParts, ob]
  cases partsT (e.get x) with
  | none => rfl
  | some l => dsimp only; cases litParts e c xs <;> rfl
theorem chunks_z {c : Nat} {l : List AV} : chunks c 0 l = [] := _root_.id rfl
theorem chunks_s {c n : Nat} {l : List AV} : chunks c (n + 1) l = l.take c :: chunks c n (l.drop c) := _root_.id rfl
theorem ev_lit {e : Env} {d : Option Nat} {E c : Nat} {xs : List X} : evalO R e d (.lit E c xs) = ob (litParts e c xs) (fun l => ob2 (e.takes l) fun ps e1 => e1.newRow d E c (chunks c xs.length ps)) := by
  simp only [evalO, ob, ob2]
  cases litParts e c xs with
  | none => rfl
  | some l => dsimp only; cases e.takes l <;> rfl
def grabR (e : Env) (d g v : Nat) (q : Path) (j : Nat) (x : Option AV) : Option (List (List AV) × Env) := match x with
  | some (.sl m) => some (m, e)
  | some (.row _ _ m) => if allPure m = true then some (m, e) else if allWhole m = true then ob2 (e.take1 (.ref d g v q j)) (fun _ e1 => some (m, e1)) else none
  | _ => none
theorem grab_nil {e : Env} : e.grab .nil = some ([], e) := _root_.id rfl
theorem grab_sl {e : Env} {m : List (List AV)} : e.grab (.sl m) = some (m, e) := _root_.id rfl
theorem grab_ref {e : Env} {d g v : Nat} {q : Path} {j : Nat} : e.grab (.ref d g v q j) = grabR e d g v q j (e.cellR d g v q j) := by
  simp only [Env.grab, grabR]
  cases e.cellR d g v q j with
  | none => rfl
  | some A =>
    cases A <;> try rfl
    simp only [ob2]
    split
    · rfl
    · split
      · cases e.take1 (.ref d g v q j) <;> rfl
      · rfl
theorem grabR_sl {e : Env} {d g v : Nat} {q : Path} {j : Nat} {m : List (List AV)} : grabR e d g v q j (some (.sl m)) = some (m, e) := _root_.id rfl
theorem grabR_row {e : Env} {d g v : Nat} {q : Path} {j : Nat} {E c : Nat} {m : List (List AV)} : grabR e d g v q j (some (.row E c m)) = if allPure m = true then some (m, e) else if allWhole m = true then ob2 (e.take1 (.ref d g v q j)) (fun _ e1 => some (m, e1)) else none := _root_.id rfl
def appG (e : Env) (d : Option Nat) (E c by_ : Nat) (l : List (List AV)) (x : AV) : Option Env := ob2 (e.grab x) fun m e2 => if (l.length + m.length) * by_ ≤ 140737488355328 ∧ m.all (fun y => y.length == c) = true then e2.newRow d E c (l ++ m) else none
theorem appG_eq {e : Env} {d : Option Nat} {E c by_ : Nat} {l : List (List AV)} {x : AV} : appG e d E c by_ l x = ob2 (e.grab x) (fun m e2 => if (l.length + m.length) * by_ ≤ 140737488355328 ∧ m.all (fun y => y.length == c) = true then e2.newRow d E c (l ++ m) else none) := _root_.id rfl
def appR (e1 : Env) (d : Option Nat) (E c by_ : Nat) (x B : AV) : Option Env := match B with
  | .row E' c' l => if E' = E ∧ c' = c then appG e1 d E c by_ l x else none
  | _ => none
theorem appR_row {e1 : Env} {d : Option Nat} {E c by_ E' c' : Nat} {x : AV} {l : List (List AV)} : appR e1 d E c by_ x (.row E' c' l) = if E' = E ∧ c' = c then appG e1 d E c by_ l x else none := _root_.id rfl
theorem app_nil {e : Env} {d : Option Nat} {E c by_ : Nat} {x : AV} : appendA e d E c by_ .nil x = appG e d E c by_ [] x := by
  simp only [appendA, appG, ob2]; cases e.grab x <;> rfl
theorem app_ref {e : Env} {d0 : Option Nat} {E c by_ : Nat} {x : AV} {d g v : Nat} {q : Path} {j : Nat} : appendA e d0 E c by_ (.ref d g v q j) x = ob2 (e.take1 (.ref d g v q j)) (fun B e1 => appR e1 d0 E c by_ x B) := by
  simp only [appendA, appR, appG, ob2]
  cases e.take1 (.ref d g v q j) with
  | none => rfl
  | some r =>
    obtain ⟨B, e1⟩ := r
    cases B <;> try rfl
    dsimp only
    split
    · cases e1.grab x <;> rfl
    · rfl
theorem ev_app {e : Env} {d : Option Nat} {E c by_ : Nat} {s x : X} : evalO R e d (.app E c by_ s x) = appendA e d E c by_ (e.get s) (e.get x) := _root_.id rfl
theorem ev_apps {e : Env} {d : Option Nat} {E : Nat} {s x : X} : evalO R e d (.apps E s x) = onS (e.get x) (fun t => appendA e d E 1 1 (e.get s) (.sl (byteCells t))) := by
  simp only [evalO, onS]; cases e.get x <;> rfl
theorem congr_appA {e : Env} {d : Option Nat} {E c by_ : Nat} {s s' x x' : AV} (h : s = s') (h' : x = x') : appendA e d E c by_ s x = appendA e d E c by_ s' x' := by rw [h, h']
theorem ev_cpy {e : Env} {d : Option Nat} {E c by_ : Nat} {x : X} : evalO R e d (.cpy E c by_ x) = ob (e.elems (e.get x)) (fun m => if m.length * by_ ≤ 140737488355328 ∧ m.all (fun y => y.length == c) = true ∧ allPure m = true then e.newRow d E c m else none) := by
  simp only [evalO, ob]; cases e.elems (e.get x) <;> rfl
theorem ev_cvsb {e : Env} {d : Option Nat} {E : Nat} {x : X} : evalO R e d (.cvsb E x) = onS (e.get x) (fun s => if s.size ≤ 140737488355328 then some (e.put d (.sl (byteCells s))) else none) := by
  simp only [evalO, onS]; cases e.get x <;> rfl
theorem refs_ref {d g v : Nat} {q : Path} {j : Nat} : refsOf (.ref d g v q j) = [.ref d g v q j] := _root_.id rfl
theorem refs_int {k : IntKind} {n : Int} : refsOf (.int k n) = [] := _root_.id rfl
theorem refs_bool {b : Bool} : refsOf (.bool b) = [] := _root_.id rfl
theorem refs_str {s : ByteArray} : refsOf (.str s) = [] := _root_.id rfl
theorem refs_nil : refsOf .nil = [] := _root_.id rfl
theorem refs_nilp : refsOf .nilp = [] := _root_.id rfl
theorem refs_sl {l : List (List AV)} : refsOf (.sl l) = [] := _root_.id rfl
theorem refs_el {l : List AV} : refsOf (.el l) = [] := _root_.id rfl
theorem refs_fn {f : Nat} {l : List AV} : refsOf (.fn f l) = [] := _root_.id rfl
theorem refs_ptr {d g v : Nat} {q : Path} {j : Nat} : refsOf (.ptr d g v q j) = [] := _root_.id rfl
def refsL : List AV → List AV
  | [] => []
  | A :: l => match A with
    | .ref d g v q j => .ref d g v q j :: refsL l
    | _ => refsL l
theorem refs_agg {l : List AV} : refsOf (.agg l) = refsL l := by
  simp only [refsOf]
  induction l with
  | nil => rfl
  | cons A l ih => cases A <;> simp [List.filter, refsL, ih]
theorem refsL_nil : refsL [] = [] := _root_.id rfl
theorem refsL_ref {d g v : Nat} {q : Path} {j : Nat} {l : List AV} : refsL (.ref d g v q j :: l) = .ref d g v q j :: refsL l := _root_.id rfl
theorem refsL_pure {A : AV} {l : List AV} (h : A.pure = true) : refsL (A :: l) = refsL l := by cases A <;> first | rfl | (cases h; done)
def frzR (e : Env) (d : Nat) (q : Path) (j : Nat) (x : Option AV) : Option Env := match x with
  | some (.row E c l) => ob (viewT (.row E c l)) fun B => e.turn d q none (fun m => m.set j B)
  | some (.sl _) => some e
  | _ => none
theorem frz1_ref {e : Env} {d g v : Nat} {q : Path} {j : Nat} : e.freeze1 (.ref d g v q j) = frzR e d q j (e.cellR d g v q j) := by
  simp only [Env.freeze1, frzR]
  cases e.cellR d g v q j with
  | none => rfl
  | some A =>
    cases A <;> try rfl
    rename_i E c l
    simp only [ob]
    cases viewT (.row E c l) <;> rfl
theorem frzR_row {e : Env} {d : Nat} {q : Path} {j E c : Nat} {l : List (List AV)} : frzR e d q j (some (.row E c l)) = ob (viewT (.row E c l)) (fun B => e.turn d q none (fun m => m.set j B)) := _root_.id rfl
theorem frzR_sl {e : Env} {d : Nat} {q : Path} {j : Nat} {l : List (List AV)} : frzR e d q j (some (.sl l)) = some e := _root_.id rfl
theorem congr_frzR {e : Env} {d : Nat} {q : Path} {j : Nat} {x x' : Option AV} (h : x = x') : frzR e d q j x = frzR e d q j x' := by rw [h]
theorem frz_nil {e : Env} : e.freezes [] = some e := _root_.id rfl
theorem frz_cons {e : Env} {A : AV} {l : List AV} : e.freezes (A :: l) = ob (e.freeze1 A) (fun e1 => e1.freezes l) := by
  simp only [Env.freezes, ob]; cases e.freeze1 A <;> rfl
theorem viewN_pure (n : Nat) {A : AV} (h : A.pure = true) : viewN n A = some A := by
  cases n with
  | zero => simp [viewN, h]
  | succ n => cases A <;> first | (simp [viewN, AV.pure]; done) | (cases h; done)
theorem mapM_self {f : α → Option α} : ∀ {l : List α}, (∀ x ∈ l, f x = some x) → l.mapM f = some l
  | [], _ => rfl
  | x :: l, h => by
    rw [List.mapM_cons, h x (List.mem_cons_self ..), mapM_self (fun y hy => h y (List.mem_cons_of_mem _ hy))]; rfl
theorem viewT_pure {E c : Nat} {l : List (List AV)} (h : allPure l = true) : viewT (.row E c l) = some (.sl l) := by
  show viewN (3 + 1) _ = _
  simp only [viewN]
  rw [mapM_self (l := l)]
  intro x hx
  exact mapM_self fun y hy => viewN_pure 3 (by
    have := List.all_eq_true.1 h x hx
    exact List.all_eq_true.1 this y hy)
def v1R (x : Option AV) : Option AV := match x with
  | some (.sl l) => some (.sl l)
  | _ => none
theorem v1_ref {e : Env} {d g v : Nat} {q : Path} {j : Nat} : e.view1 (.ref d g v q j) = v1R (e.cellR d g v q j) := by
  simp only [Env.view1, v1R]
  cases e.cellR d g v q j with
  | none => rfl
  | some A => cases A <;> rfl
theorem v1R_sl {l : List (List AV)} : v1R (some (.sl l)) = some (.sl l) := _root_.id rfl
theorem v1_int {e : Env} {k : IntKind} {n : Int} : e.view1 (.int k n) = some (.int k n) := _root_.id rfl
theorem v1_bool {e : Env} {b : Bool} : e.view1 (.bool b) = some (.bool b) := _root_.id rfl
theorem v1_str {e : Env} {s : ByteArray} : e.view1 (.str s) = some (.str s) := _root_.id rfl
theorem v1_nil {e : Env} : e.view1 .nil = some .nil := _root_.id rfl
theorem v1_nilp {e : Env} : e.view1 .nilp = some .nilp := _root_.id rfl
theorem v1_sl {e : Env} {l : List (List AV)} : e.view1 (.sl l) = some (.sl l) := _root_.id rfl
theorem v1_fn {e : Env} {f : Nat} {l : List AV} : e.view1 (.fn f l) = some (.fn f l) := _root_.id rfl
theorem slOf_sl {l : List (List AV)} : AV.slOf (.sl l) = some l := _root_.id rfl
theorem slOf_nil : AV.slOf .nil = some [] := _root_.id rfl
theorem ev_sub {e : Env} {d : Option Nat} {c : Nat} {x : X} {lo hi : Option X} : evalO R e d (.sub c x lo hi) = ob (e.freezes (refsOf (e.get x))) (fun e1 => ob (e1.view1 (e.get x)) fun B => ob (AV.slOf B) fun m => ob (intArg 0 (lo.map e.get)) fun l => ob (intArg m.length (hi.map e.get)) fun h => if 0 ≤ l ∧ l ≤ h ∧ h ≤ m.length ∧ m.all (fun y => y.length == c) = true then some (e1.put d (.sl ((m.take h.toNat).drop l.toNat))) else none) := by
  simp only [evalO, ob]
  cases e.freezes (refsOf (e.get x)) with
  | none => rfl
  | some e1 =>
    dsimp only
    cases e1.view1 (e.get x) with
    | none => rfl
    | some B =>
      dsimp only
      cases AV.slOf B with
      | none => rfl
      | some m =>
        dsimp only
        cases intArg 0 (lo.map e.get) with
        | none => rfl
        | some l => dsimp only; cases intArg m.length (hi.map e.get) <;> rfl
/-! ### Calls -/
theorem ev_call {e : Env} {d : Option Nat} {f : Nat} {ms : List Md} {xs : List X} : evalO R e d (.call f ms xs) = callA R e d f ms (xs.map e.get) := _root_.id rfl
def onFn (A : AV) (f : Nat → List AV → Option γ) : Option γ := match A with
  | .fn n l => f n l
  | .fnp n l => f n l
  | _ => none
theorem onFn_fn {n : Nat} {l : List AV} {f : Nat → List AV → Option γ} : onFn (.fn n l) f = f n l := _root_.id rfl
theorem onFn_fnp {n : Nat} {l : List AV} {f : Nat → List AV → Option γ} : onFn (.fnp n l) f = f n l := _root_.id rfl
theorem congr_onFn {A A' : AV} {f : Nat → List AV → Option γ} (h : A = A') : onFn A f = onFn A' f := by rw [h]
theorem ev_calld {e : Env} {d : Option Nat} {x : X} {xs : List X} : evalO R e d (.calld x xs) = onFn (e.get x) (fun f l => callA R e d f (List.replicate (xs.length + l.length) .ro) (xs.map e.get ++ l)) := by
  simp only [evalO, onFn]; cases e.get x <;> rfl
theorem ev_clo {e : Env} {d : Option Nat} {f : Nat} {xs : List X} : evalO R e d (.clo f xs) = if (xs.map e.get).all (fun A => A.pure) = true then some (e.put d (.fn f (xs.map e.get))) else if (xs.map e.get).all AV.capt = true then some (e.put d (.fnp f (xs.map e.get))) else none := _root_.id rfl
theorem ev_clof {e : Env} {d : Option Nat} {f : Nat} {xs : List X} : evalO R e d (.clof f xs) = ob2 (e.frzTs xs) (fun As e1 => some (e1.put d (.fn f As))) := by
  simp only [evalO, ob2]; cases e.frzTs xs <;> rfl
theorem fzs_nil {e : Env} : e.frzTs [] = some ([], e) := _root_.id rfl
theorem fzs_cons {e : Env} {x : X} {xs : List X} : e.frzTs (x :: xs) = ob2 (e.frzT x) (fun A e1 => ob2 (e1.frzTs xs) fun m e2 => some (A :: m, e2)) := by
  simp only [Env.frzTs, ob2]
  cases e.frzT x with
  | none => rfl
  | some r => obtain ⟨A, e1⟩ := r; dsimp only; cases e1.frzTs xs <;> rfl
def fzV (e : Env) (n : Nat) (A : AV) : Option (AV × Env) := match A with
    | .ptr d g v q j => match q, j with
      | [], 0 => ob (e.obj d g) fun o => match o.k with
          | .box l => if l.all AV.pure = true then some (.el l, ⟨e.tmps.set n (.el l), e.objs.set d ⟨o.gen, o.vs, .dead⟩⟩) else none
          | _ => none
      | _, _ => none
    | .el l => some (.el l, e)
    | A => if A.pure = true then some (A, e) else none
theorem fz_t {ts : List AV} {os : List AObj} {n : Nat} : Env.frzT ⟨ts, os⟩ (.t n) = fzV ⟨ts, os⟩ n (ts.getD n .unk) := by
  simp only [Env.frzT, fzV]
  cases ts.getD n .unk <;> try rfl
  rename_i d g v q j
  cases q <;> cases j <;> try rfl
  simp only [ob]
  cases Env.obj ⟨ts, os⟩ d g with
  | none => rfl
  | some o => obtain ⟨g, vs, k⟩ := o; cases k <;> rfl
theorem congr_fzV {e : Env} {n : Nat} {A A' : AV} (h : A = A') : fzV e n A = fzV e n A' := by rw [h]
theorem fz_c {e : Env} {A : AV} : e.frzT (.c A) = if A.pure = true then some (A, e) else none := _root_.id rfl
theorem fzV_ptr {ts : List AV} {os : List AObj} {n d g v : Nat} : fzV ⟨ts, os⟩ n (.ptr d g v [] 0) = obO (os[d]?) (fun g' vs k => if g' = g then onBx k (fun l => if l.all AV.pure = true then some (.el l, ⟨ts.set n (.el l), os.set d ⟨g', vs, .dead⟩⟩) else none) else none) := by
  simp only [fzV, obO, ob, Env.obj]
  cases os[d]? with
  | none => rfl
  | some o =>
    obtain ⟨g', vs, k⟩ := o
    dsimp only
    by_cases h : g' = g
    · simp only [h, if_true]; cases k <;> rfl
    · simp only [h, if_false]
theorem fzV_el {e : Env} {n : Nat} {l : List AV} : fzV e n (.el l) = some (.el l, e) := _root_.id rfl
theorem fzV_pure {e : Env} {n : Nat} {A : AV} (h : A.pure = true) : fzV e n A = some (A, e) := by cases A <;> first | rfl | (cases h; done)
theorem capt_ptr {d g v : Nat} {q : Path} {j : Nat} : AV.capt (.ptr d g v q j) = true := _root_.id rfl
theorem capt_ref {d g v : Nat} {q : Path} {j : Nat} : AV.capt (.ref d g v q j) = true := _root_.id rfl
theorem capt_pure {A : AV} (h : A.pure = true) : AV.capt A = true := by cases A <;> first | rfl | (cases h; done)
theorem ev_mkm {ts : List AV} {os : List AObj} {d : Nat} : evalO R ⟨ts, os⟩ (some d) .mkm = obO (os[d]?) (fun g _ _ => some ⟨ts.set d (.mref d (g + 1)), os.set d ⟨g + 1, [], .map []⟩⟩) := by
  simp only [evalO, Env.make, Env.gen]
  cases h : os[d]? with
  | none => rw [if_neg (lt_len h)]; rfl
  | some o => rw [if_pos (lt_of_get h)]; rfl
def msetA (e : Env) (kd : Option IntKind) (m k v : AV) : Option Env := match m with
  | .mref d g => ob (e.obj d g) fun o => onMp o.k fun l => if keyOk kd k = true ∧ v.pure = true then ob (mapGet k l) (fun x => if x.isSome = true then some (e.setObj d ⟨o.gen, o.vs, .map (mapPut k v l)⟩) else some (e.setObj d ⟨o.gen, o.vs, .map (l ++ [(k, v)])⟩)) else none
  | _ => none
theorem ev_mset {e : Env} {d : Option Nat} {kd : Option IntKind} {m k v : X} : evalO R e d (.mset kd m k v) = msetA e kd (e.get m) (e.get k) (e.get v) := by
  simp only [evalO, Env.mapSet, msetA]
  cases e.get m <;> try rfl
  rename_i d g
  simp only [ob]
  cases e.obj d g with
  | none => rfl
  | some o =>
    dsimp only
    cases o.k <;> try rfl
    rename_i l
    dsimp only [onMp]
    split
    · cases mapGet (e.get k) l with
      | none => rfl
      | some y => cases y <;> rfl
    · rfl
theorem mset_mref {e : Env} {kd : Option IntKind} {k v : AV} {d g : Nat} : msetA e kd (.mref d g) k v = ob (e.obj d g) (fun o => onMp o.k fun l => if keyOk kd k = true ∧ v.pure = true then ob (mapGet k l) (fun x => if x.isSome = true then some (e.setObj d ⟨o.gen, o.vs, .map (mapPut k v l)⟩) else some (e.setObj d ⟨o.gen, o.vs, .map (l ++ [(k, v)])⟩)) else none) := _root_.id rfl
/-- What is seen of cells. -/
def viewsL (e : Env) : List AV → Option (List AV)
  | [] => some []
  | A :: l => ob (e.view1 A) fun B => ob (viewsL e l) fun m => some (B.norm :: m)
theorem viewsL_eq {e : Env} : ∀ {l : List AV}, viewsL e l = (match l.mapM e.view1 with
    | some m => some (m.map AV.norm)
    | none => none)
  | [] => rfl
  | A :: l => by
    rw [List.mapM_cons, viewsL, viewsL_eq (l := l)]
    cases e.view1 A with
    | none => rfl
    | some B => cases h : l.mapM e.view1 <;> simp [ob, h]
theorem viewsL_nil {e : Env} : viewsL e [] = some [] := _root_.id rfl
theorem viewsL_cons {e : Env} {A : AV} {l : List AV} : viewsL e (A :: l) = ob (e.view1 A) (fun B => ob (viewsL e l) fun m => some (B.norm :: m)) := _root_.id rfl
theorem view_agg {e : Env} {l : List AV} : e.view (.agg l) = ob (viewsL e l) (fun m => some (.agg m)) := by
  rw [viewsL_eq]; simp only [Env.view]; cases l.mapM e.view1 <;> rfl
theorem view_el {e : Env} {l : List AV} : e.view (.el l) = some (.el l) := _root_.id rfl
theorem view_int {e : Env} {k : IntKind} {n : Int} : e.view (.int k n) = some (.int k n) := _root_.id rfl
theorem view_bool {e : Env} {b : Bool} : e.view (.bool b) = some (.bool b) := _root_.id rfl
theorem view_str {e : Env} {s : ByteArray} : e.view (.str s) = some (.str s) := _root_.id rfl
theorem view_nil {e : Env} : e.view .nil = some (.sl []) := _root_.id rfl
theorem view_nilp {e : Env} : e.view .nilp = some .nilp := _root_.id rfl
theorem view_sl {e : Env} {l : List (List AV)} : e.view (.sl l) = some (.sl l) := _root_.id rfl
theorem view_fn {e : Env} {f : Nat} {l : List AV} : e.view (.fn f l) = some (.fn f l) := _root_.id rfl
theorem view_ref {e : Env} {d g v : Nat} {q : Path} {j : Nat} : e.view (.ref d g v q j) = ob (v1R (e.cellR d g v q j)) (fun B => some B.norm) := by
  rw [← v1_ref]
  simp only [Env.view]
  cases e.view1 (.ref d g v q j) <;> rfl
theorem norm_int {k : IntKind} {n : Int} : AV.norm (.int k n) = .int k n := _root_.id rfl
theorem norm_bool {b : Bool} : AV.norm (.bool b) = .bool b := _root_.id rfl
theorem norm_str {s : ByteArray} : AV.norm (.str s) = .str s := _root_.id rfl
theorem norm_nil : AV.norm .nil = .sl [] := _root_.id rfl
theorem norm_nilp : AV.norm .nilp = .nilp := _root_.id rfl
theorem norm_sl {l : List (List AV)} : AV.norm (.sl l) = .sl l := _root_.id rfl
theorem norm_fn {f : Nat} {l : List AV} : AV.norm (.fn f l) = .fn f l := _root_.id rfl
/-- The arguments. -/
theorem argsV_nil {e : Env} : e.argsV [] [] = some [] := _root_.id rfl
theorem argsV_cons {e : Env} {m : Md} {ms : List Md} {A : AV} {As : List AV} : e.argsV (m :: ms) (A :: As) = ob (e.argV m A) (fun B => ob (e.argsV ms As) fun Bs => some (B :: Bs)) := by
  simp only [Env.argsV, ob]
  cases e.argV m A with
  | none => rfl
  | some B => dsimp only; cases e.argsV ms As <;> rfl
theorem argV_ro {e : Env} {A : AV} (h : lends .ro A = false) : e.argV .ro A = e.view A := by simp [Env.argV, h]
theorem lent_ro_int {k : IntKind} {n : Int} : lends .ro (.int k n) = false := _root_.id rfl
theorem lent_ro_bool {b : Bool} : lends .ro (.bool b) = false := _root_.id rfl
theorem lent_ro_str {s : ByteArray} : lends .ro (.str s) = false := _root_.id rfl
theorem lent_ro_nil : lends .ro .nil = false := _root_.id rfl
theorem lent_ro_nilp : lends .ro .nilp = false := _root_.id rfl
theorem lent_ro_sl {l : List (List AV)} : lends .ro (.sl l) = false := _root_.id rfl
theorem lent_ro_agg {l : List AV} : lends .ro (.agg l) = false := _root_.id rfl
theorem lent_ro_el {l : List AV} : lends .ro (.el l) = false := _root_.id rfl
theorem lent_ro_fn {f : Nat} {l : List AV} : lends .ro (.fn f l) = false := _root_.id rfl
theorem lent_ro_ref {d g v : Nat} {q : Path} {j : Nat} : lends .ro (.ref d g v q j) = false := _root_.id rfl
theorem lent_ptr {m : Md} {d g v : Nat} {q : Path} {j : Nat} : lends m (.ptr d g v q j) = true := by cases m <;> rfl
theorem lent_io_ref {E c : Nat} {d g v : Nat} {q : Path} {j : Nat} : lends (.io E c) (.ref d g v q j) = true := _root_.id rfl
theorem lent_io_nil {E c : Nat} : lends (.io E c) .nil = true := _root_.id rfl
theorem argV_le {e : Env} {m : Md} {A : AV} (h : lends m A = true) : e.argV m A = e.lent m A := by simp [Env.argV, h]
def lentR (x : Option AV) : Option AV := match x with
  | some (.row E c l) => some (.row E c l)
  | _ => none
theorem lent_ref {e : Env} {m : Md} {d g v : Nat} {q : Path} {j : Nat} : e.lent m (.ref d g v q j) = lentR (e.cellR d g v q j) := by
  simp only [Env.lent, lentR]
  cases e.cellR d g v q j with
  | none => rfl
  | some A => cases A <;> rfl
theorem lentR_row {E c : Nat} {l : List (List AV)} : lentR (some (.row E c l)) = some (.row E c l) := _root_.id rfl
theorem lentR_unk : lentR (some .unk) = none := _root_.id rfl
theorem lentR_sl {l : List (List AV)} : lentR (some (.sl l)) = none := _root_.id rfl
theorem lent_nil {e : Env} {E c : Nat} : e.lent (.io E c) .nil = some (.row E c []) := _root_.id rfl
theorem lent_box {e : Env} {m : Md} {d g v : Nat} : e.lent m (.ptr d g v [] 0) = ob (e.cellsP d g v []) (fun l => some (.bx l)) := by
  simp only [Env.lent, ob]; cases e.cellsP d g v [] <;> rfl
theorem ro_nil : roRefs [] [] = [] := _root_.id rfl
theorem ro_cons {m : Md} {ms : List Md} {A : AV} {As : List AV} : roRefs (m :: ms) (A :: As) = (if lends m A = true then [] else refsOf A) ++ roRefs ms As := _root_.id rfl
theorem lo_nil : lentOf [] [] = [] := _root_.id rfl
theorem lo_cons {m : Md} {ms : List Md} {A : AV} {As : List AV} : lentOf (m :: ms) (A :: As) = (if lends m A = true then [A] else []) ++ lentOf ms As := _root_.id rfl
/-- What follows a call that was lent nothing. -/
def callN (e e1 : Env) (d : Option Nat) (x : Option AV) : Option Env := match x with
  | some (.io ..) => none
  | some A => (if A.free = true then e else e1).install d A
  | none => none
def callL (R : RT) (e1 : Env) (d : Option Nat) (ls : List AV) (f : Nat) (Bs : List AV) : Option Env :=
  if distinct (ptrKeys ls) = true ∧ (ls.filter isRef).length ≤ 1 then (match e1.empties (ptrKeys ls) with
        | some e2 => match R f Bs with
          | some (.io A outs) => if (bxOf A).isNone = true then (match e2.giveRows ls outs with
            | some e3 => match e3.fills ls outs with
              | some e4 => e4.install d A
              | none => none
            | none => none) else none
          | _ => none
        | none => none) else none
def callM (R : RT) (e e1 : Env) (d : Option Nat) (f : Nat) (Bs : List AV) (ls : List AV) : Option Env := match ls with
  | [] => callN e e1 d (R f Bs)
  | A :: ls => callL R e1 d (A :: ls) f Bs
theorem callA_eq {e : Env} {d : Option Nat} {f : Nat} {ms : List Md} {As : List AV} : callA R e d f ms As = ob (e.freezes (roRefs ms As)) (fun e1 => ob (e1.argsV ms As) fun Bs => callM R e e1 d f Bs (lentOf ms As)) := by
  simp only [callA, ob]
  cases e.freezes (roRefs ms As) with
  | none => rfl
  | some e1 =>
    dsimp only
    cases e1.argsV ms As with
    | none => rfl
    | some Bs =>
      dsimp only
      cases lentOf ms As with
      | nil =>
        simp only [callM, callN]
        cases R f Bs with
        | none => rfl
        | some A => cases A <;> rfl
      | cons A l => rfl
theorem callM_nil {e e1 : Env} {d : Option Nat} {f : Nat} {Bs : List AV} : callM R e e1 d f Bs [] = callN e e1 d (R f Bs) := _root_.id rfl
theorem congr_callM {e e1 : Env} {d : Option Nat} {f : Nat} {Bs : List AV} {ls ls' : List AV} (h : ls = ls') : callM R e e1 d f Bs ls = callM R e e1 d f Bs ls' := by rw [h]
theorem congr_callN {e e1 : Env} {d : Option Nat} {x x' : Option AV} (h : x = x') : callN e e1 d x = callN e e1 d x' := by rw [h]
theorem callN_int {e e1 : Env} {d : Option Nat} {k : IntKind} {n : Int} : callN e e1 d (some (.int k n)) = some (e.put d (.int k n)) := by cases d <;> rfl
theorem callN_bool {e e1 : Env} {d : Option Nat} {b : Bool} : callN e e1 d (some (.bool b)) = some (e.put d (.bool b)) := by cases d <;> rfl
theorem callN_str {e e1 : Env} {d : Option Nat} {s : ByteArray} : callN e e1 d (some (.str s)) = some (e.put d (.str s)) := by cases d <;> rfl
theorem callN_nil {e e1 : Env} {d : Option Nat} : callN e e1 d (some .nil) = some (e.put d .nil) := by cases d <;> rfl
theorem callN_nilp {e e1 : Env} {d : Option Nat} : callN e e1 d (some .nilp) = some (e.put d .nilp) := by cases d <;> rfl
theorem callN_sl {e e1 : Env} {d : Option Nat} {l : List (List AV)} : callN e e1 d (some (.sl l)) = some (e1.put d (.sl l)) := by cases d <;> rfl
theorem callN_fn {e e1 : Env} {d : Option Nat} {f : Nat} {l : List AV} : callN e e1 d (some (.fn f l)) = some (e1.put d (.fn f l)) := by cases d <;> rfl
def pickE (b : Bool) (e e1 : Env) : Env := if b = true then e else e1
theorem pickE_t {e e1 : Env} : pickE true e e1 = e := _root_.id rfl
theorem pickE_f {e e1 : Env} : pickE false e e1 = e1 := _root_.id rfl
theorem pickE_same {b : Bool} {e : Env} : pickE b e e = e := by cases b <;> rfl
def flats (l : List (List AV)) : Bool := l.all fun x => x.all AV.flat
theorem callN_row {e e1 : Env} {d : Nat} {E c : Nat} {l : List (List AV)} : callN e e1 (some d) (some (.row E c l)) = (pickE (flats l) e e1).newRow (some d) E c l := by
  have : ∀ e : Env, e.install (some d) (.row E c l) = e.newRow (some d) E c l := by
    intro e
    simp only [Env.install, bxOf, rowsOf, rowsOf1, nameR, name1, Env.newRow, List.length_cons, List.length_nil, List.all_cons, List.all_nil, AV.isRow, Bool.and_true, if_true]
    rfl
  show (if flats l = true then e else e1).install (some d) (.row E c l) = _
  rw [this]; rfl
theorem callN_agg {e e1 : Env} {d : Option Nat} {l : List AV} : callN e e1 d (some (.agg l)) = (pickE (l.all AV.flat) e e1).install d (.agg l) := _root_.id rfl
theorem callN_tup {e e1 : Env} {d : Option Nat} {l : List AV} : callN e e1 d (some (.tup l)) = (pickE (AV.free (.tup l)) e e1).install d (.tup l) := _root_.id rfl
theorem callN_bx {e e1 : Env} {d : Nat} {l : List AV} : callN e e1 (some d) (some (.bx l)) = e1.newBox (some d) l := by
  simp only [callN, AV.free, Env.install, bxOf, rowsOf, rowsOf1, Env.newBox, nameB, nameB1]
  rfl
theorem inst_row {e : Env} {d : Nat} {E c : Nat} {l : List (List AV)} : e.install (some d) (.row E c l) = e.newRow (some d) E c l := by
  simp only [Env.install, bxOf, rowsOf, rowsOf1, nameR, name1, Env.newRow, List.length_cons, List.length_nil, List.all_cons, List.all_nil, AV.isRow, Bool.and_true, if_true]
  rfl
theorem inst_bx1 {e : Env} {d : Nat} {l : List AV} : e.install (some d) (.bx l) = e.newBox (some d) l := by
  simp only [Env.install, bxOf, rowsOf, rowsOf1, Env.newBox, nameB, nameB1]
  rfl
theorem inst_none {e : Env} {A : AV} : e.install none A = some e := _root_.id rfl
theorem inst_pure {e : Env} {d : Option Nat} {A : AV} (h1 : bxOf A = none) (h2 : rowsOf A = []) : e.install d A = some (e.put d A) := by
  cases d with
  | none => rfl
  | some d => simp only [Env.install, h1, h2, if_true]
def bxL : List AV → Option (List AV)
  | [] => none
  | A :: l => match A with
    | .bx m => some m
    | _ => bxL l
theorem bxOf_tup {l : List AV} : bxOf (.tup l) = bxL l := by
  simp only [bxOf]
  induction l with
  | nil => rfl
  | cons A l ih => cases A <;> simp [List.findSome?_cons, bxL, ih]
theorem bxL_nil : bxL [] = none := _root_.id rfl
theorem bxL_bx {m l : List AV} : bxL (.bx m :: l) = some m := _root_.id rfl
theorem bxL_row {E c : Nat} {m : List (List AV)} {l : List AV} : bxL (.row E c m :: l) = bxL l := _root_.id rfl
theorem bxL_agg {m l : List AV} : bxL (.agg m :: l) = bxL l := _root_.id rfl
theorem bxL_pure {A : AV} {l : List AV} (h : A.pure = true) : bxL (A :: l) = bxL l := by cases A <;> first | rfl | (cases h; done)
theorem bxOf_bx {l : List AV} : bxOf (.bx l) = some l := _root_.id rfl
theorem bxOf_row {E c : Nat} {m : List (List AV)} : bxOf (.row E c m) = none := _root_.id rfl
theorem bxOf_agg {m : List AV} : bxOf (.agg m) = none := _root_.id rfl
theorem bxOf_pure {A : AV} (h : A.pure = true) : bxOf A = none := by cases A <;> first | rfl | (cases h; done)
theorem rowsOf_tup {l : List AV} : rowsOf (.tup l) = l.flatMap rowsOf1 := _root_.id rfl
theorem rowsOf_row {E c : Nat} {m : List (List AV)} : rowsOf (.row E c m) = [.row E c m] := _root_.id rfl
theorem rowsOf_agg {m : List AV} : rowsOf (.agg m) = rowsOf1 (.agg m) := _root_.id rfl
theorem rowsOf_pure {A : AV} (h : A.pure = true) : rowsOf A = [] := by cases A <;> first | rfl | (cases h; done)
theorem rows1_row {E c : Nat} {m : List (List AV)} : rowsOf1 (.row E c m) = [.row E c m] := _root_.id rfl
theorem rows1_agg {m : List AV} : rowsOf1 (.agg m) = m.filter (fun A => !A.pure) := _root_.id rfl
theorem rows1_pure {A : AV} (h : A.pure = true) : rowsOf1 A = [] := by cases A <;> first | rfl | (cases h; done)
theorem nameR_tup {d g : Nat} {l : List AV} : nameR d g (.tup l) = .tup (nameTup d g l 0) := _root_.id rfl
theorem nameR_row {d g E c : Nat} {m : List (List AV)} : nameR d g (.row E c m) = .ref d g 0 [] 0 := _root_.id rfl
theorem nameR_agg {d g : Nat} {l : List AV} : nameR d g (.agg l) = .agg (nameCells d g l 0) := _root_.id rfl
theorem nameT_nil {d g k : Nat} : nameTup d g [] k = [] := _root_.id rfl
theorem nameT_cons {d g k : Nat} {A : AV} {l : List AV} : nameTup d g (A :: l) k = name1 d g k A :: nameTup d g l (k + (rowsOf1 A).length) := _root_.id rfl
theorem name1_row {d g k E c : Nat} {m : List (List AV)} : name1 d g k (.row E c m) = .ref d g 0 [] k := _root_.id rfl
theorem name1_agg {d g k : Nat} {l : List AV} : name1 d g k (.agg l) = .agg (nameCells d g l k) := _root_.id rfl
theorem name1_pure {d g k : Nat} {A : AV} (h : A.pure = true) : name1 d g k A = A := by cases A <;> first | rfl | (cases h; done)
theorem nameC_nil {d g k : Nat} : nameCells d g [] k = [] := _root_.id rfl
theorem nameC_cons {d g k : Nat} {A : AV} {l : List AV} : nameCells d g (A :: l) k = if A.pure = true then A :: nameCells d g l k else .ref d g 0 [] k :: nameCells d g l (k + 1) := _root_.id rfl
theorem nameB_tup {d g : Nat} {l : List AV} : nameB d g (.tup l) = .tup (l.map (nameB1 d g)) := _root_.id rfl
theorem nameB1_bx {d g : Nat} {l : List AV} : nameB1 d g (.bx l) = .ptr d g 0 [] 0 := _root_.id rfl
theorem nameB1_pure {d g : Nat} {A : AV} (h : A.pure = true) : nameB1 d g A = A := by cases A <;> first | rfl | (cases h; done)
theorem isRow_row {E c : Nat} {m : List (List AV)} : AV.isRow (.row E c m) = true := _root_.id rfl
def freeL (l : List AV) : Bool := l.all fun A => A.free
theorem free_row {E c : Nat} {m : List (List AV)} : AV.free (.row E c m) = flats m := _root_.id rfl
theorem free_agg {l : List AV} : AV.free (.agg l) = l.all AV.flat := _root_.id rfl
def free1 : AV → Bool
  | .row _ _ l => flats l
  | .agg l => l.all AV.flat
  | A => A.flat
theorem free_tup {l : List AV} : AV.free (.tup l) = l.all free1 := by
  simp only [AV.free]; congr 1
theorem free1_row {E c : Nat} {m : List (List AV)} : free1 (.row E c m) = flats m := _root_.id rfl
theorem free1_agg {l : List AV} : free1 (.agg l) = l.all AV.flat := _root_.id rfl
theorem free1_int {k : IntKind} {n : Int} : free1 (.int k n) = true := _root_.id rfl
theorem free1_bool {b : Bool} : free1 (.bool b) = true := _root_.id rfl
theorem free1_str {s : ByteArray} : free1 (.str s) = true := _root_.id rfl
theorem free1_nil : free1 .nil = true := _root_.id rfl
theorem free1_nilp : free1 .nilp = true := _root_.id rfl
theorem free1_sl {l : List (List AV)} : free1 (.sl l) = false := _root_.id rfl
def addO (e : Env) (d n : Nat) (k : OK) (A : Nat → AV) : Option Env := ob (e.objs[d]?) fun o => some ⟨e.tmps.set d (A (o.gen + 1)), e.objs.set d ⟨o.gen + 1, List.replicate n [], k⟩⟩
theorem addO_mk {ts : List AV} {os : List AObj} {d n : Nat} {k : OK} {A : Nat → AV} : addO ⟨ts, os⟩ d n k A = obO (os[d]?) (fun g _ _ => some ⟨ts.set d (A (g + 1)), os.set d ⟨g + 1, List.replicate n [], k⟩⟩) := by
  simp only [addO, obO, ob]; cases os[d]? <;> rfl
theorem inst_rows {e : Env} {d : Nat} {A : AV} (h1 : bxOf A = none) (h2 : (rowsOf A).isEmpty = false) (h3 : (rowsOf A).all AV.isRow = true) : e.install (some d) A = addO e d (rowsOf A).length (.val (rowsOf A)) (fun g => nameR d g A) := by
  have h4 : ¬ rowsOf A = [] := by intro h; rw [h] at h2; cases h2
  simp only [Env.install, h1, if_neg h4, h3, if_true, addO, Env.make, Env.gen, ob]
  cases h : e.objs[d]? with
  | none => rw [if_neg (lt_len h)]
  | some o => rw [if_pos (lt_of_get h)]; rfl
theorem inst_bx {e : Env} {d : Nat} {A : AV} {l : List AV} (h1 : bxOf A = some l) (h2 : rowsOf A = []) : e.install (some d) A = addO e d l.length (.box l) (fun g => nameB d g A) := by
  simp only [Env.install, h1, h2, if_true, addO, Env.make, Env.gen, ob]
  cases h : e.objs[d]? with
  | none => rw [if_neg (lt_len h)]
  | some o => rw [if_pos (lt_of_get h)]; rfl
/-- Lent ones. -/
def onIo (x : Option AV) (f : AV → List AV → Option γ) : Option γ := match x with
  | some (.io A outs) => f A outs
  | _ => none
theorem onIo_io {A : AV} {outs : List AV} {f : AV → List AV → Option γ} : onIo (some (.io A outs)) f = f A outs := _root_.id rfl
theorem congr_onIo {x x' : Option AV} {f : AV → List AV → Option γ} (h : x = x') : onIo x f = onIo x' f := by rw [h]
theorem callM_cons {e e1 : Env} {d : Option Nat} {f : Nat} {Bs : List AV} {A : AV} {ls : List AV} : callM R e e1 d f Bs (A :: ls) = if distinct (ptrKeys (A :: ls)) = true ∧ ((A :: ls).filter isRef).length ≤ 1 then ob (e1.empties (ptrKeys (A :: ls))) (fun e2 => onIo (R f Bs) fun r outs => if (bxOf r).isNone = true then ob (e2.giveRows (A :: ls) outs) (fun e3 => ob (e3.fills (A :: ls) outs) fun e4 => e4.install d r) else none) else none := by
  simp only [callM, callL, ob, onIo]
  split
  · cases e1.empties (ptrKeys (A :: ls)) with
    | none => rfl
    | some e2 =>
      dsimp only
      cases R f Bs with
      | none => rfl
      | some r =>
        cases r <;> try rfl
        rename_i r outs
        dsimp only
        split
        · cases e2.giveRows (A :: ls) outs with
          | none => rfl
          | some e3 => dsimp only; cases e3.fills (A :: ls) outs <;> rfl
        · rfl
  · rfl
theorem pk_nil : ptrKeys [] = [] := _root_.id rfl
theorem pk_ptr {d g v : Nat} {q : Path} {j : Nat} {l : List AV} : ptrKeys (.ptr d g v q j :: l) = d :: ptrKeys l := _root_.id rfl
theorem pk_ref {d g v : Nat} {q : Path} {j : Nat} {l : List AV} : ptrKeys (.ref d g v q j :: l) = ptrKeys l := _root_.id rfl
theorem pk_anil {l : List AV} : ptrKeys (.nil :: l) = ptrKeys l := _root_.id rfl
theorem isRef_ref {d g v : Nat} {q : Path} {j : Nat} : isRef (.ref d g v q j) = true := _root_.id rfl
theorem isRef_ptr {d g v : Nat} {q : Path} {j : Nat} : isRef (.ptr d g v q j) = false := _root_.id rfl
theorem isRef_nil : isRef .nil = false := _root_.id rfl
theorem emp_nil {e : Env} : e.empties [] = some e := _root_.id rfl
theorem emp_cons {ts : List AV} {os : List AObj} {d : Nat} {ds : List Nat} : Env.empties ⟨ts, os⟩ (d :: ds) = obO (os[d]?) (fun g vs k => onBx k fun l => Env.empties ⟨ts, os.set d ⟨g, addRec vs [] 0 l.length, .box (List.replicate l.length .unk)⟩⟩ ds) := by
  simp only [Env.empties, obO]
  cases os[d]? with
  | none => rfl
  | some o => obtain ⟨g, vs, k⟩ := o; cases k <;> rfl
def giveR (e : Env) (d : Nat) (q : Path) (j : Nat) (out : AV) (x : Option AV) : Option Env := match x with
  | some (.row E c r) => if fitsBack E c r out = true then ob (e.objs[d]?) (fun o => ob o.k.cells fun l => some (e.setObj d ⟨o.gen, addBelow o.vs q j, o.k.withCells (setE l q fun m => m.set j out)⟩)) else none
  | _ => none
theorem give_ref {e : Env} {d g v : Nat} {q : Path} {j : Nat} {out : AV} : e.giveRow (.ref d g v q j) out = giveR e d q j out (e.cellR d g v q j) := by
  simp only [Env.giveRow, giveR]
  cases e.cellR d g v q j with
  | none => rfl
  | some A =>
    cases A <;> try rfl
    dsimp only
    split
    · simp only [ob]
      cases e.objs[d]? with
      | none => rfl
      | some o => dsimp only; cases o.k.cells <;> rfl
    · rfl
theorem giveR_row {ts : List AV} {os : List AObj} {d : Nat} {q : Path} {j : Nat} {out : AV} {E c : Nat} {r : List (List AV)} : giveR ⟨ts, os⟩ d q j out (some (.row E c r)) = if fitsBack E c r out = true then obO (os[d]?) (fun g vs k => onCl k fun l => some ⟨ts, os.set d ⟨g, addBelow vs q j, k.withCells (setE l q fun m => m.set j out)⟩⟩) else none := by
  simp only [giveR, obO, ob]
  split
  · cases os[d]? with
    | none => rfl
    | some o => obtain ⟨g, vs, k⟩ := o; cases k <;> rfl
  · rfl
theorem congr_giveR {e : Env} {d : Nat} {q : Path} {j : Nat} {out : AV} {x x' : Option AV} (h : x = x') : giveR e d q j out x = giveR e d q j out x' := by rw [h]
theorem give_ptr {e : Env} {d g v : Nat} {q : Path} {j : Nat} {out : AV} : e.giveRow (.ptr d g v q j) out = some e := _root_.id rfl
theorem give_anil {e : Env} {out : AV} : e.giveRow .nil out = some e := _root_.id rfl
theorem gives_nil {e : Env} : e.giveRows [] [] = some e := _root_.id rfl
theorem gives_cons {e : Env} {A out : AV} {As outs : List AV} : e.giveRows (A :: As) (out :: outs) = ob (e.giveRow A out) (fun e1 => e1.giveRows As outs) := by
  simp only [Env.giveRows, ob]; cases e.giveRow A out <;> rfl
theorem fits_row {E c E' c' : Nat} {r r' : List (List AV)} : fitsBack E c r (.row E' c' r') = (E' == E && (c' == c && r'.length == r.length)) := _root_.id rfl
theorem fits_unk {E c : Nat} {r : List (List AV)} : fitsBack E c r .unk = true := _root_.id rfl
theorem fill1_ref {e : Env} {d g v : Nat} {q : Path} {j : Nat} {out : AV} : e.fill1 (.ref d g v q j) out = some e := _root_.id rfl
theorem fill1_anil {e : Env} {out : AV} : e.fill1 .nil out = some e := _root_.id rfl
theorem fill1_ptr {ts : List AV} {os : List AObj} {d g v : Nat} {q : Path} {j : Nat} {l : List AV} : Env.fill1 ⟨ts, os⟩ (.ptr d g v q j) (.bx l) = obO (os[d]?) (fun g' vs k => onBx k fun l0 => if l.length = l0.length then some ⟨ts, os.set d ⟨g', addRec vs [] 0 l.length, .box l⟩⟩ else none) := by
  simp only [Env.fill1, obO]
  cases os[d]? with
  | none => rfl
  | some o => obtain ⟨g, vs, k⟩ := o; cases k <;> rfl
theorem fills_nil {e : Env} : e.fills [] [] = some e := _root_.id rfl
theorem fills_cons {e : Env} {A out : AV} {As outs : List AV} : e.fills (A :: As) (out :: outs) = ob (e.fill1 A out) (fun e1 => e1.fills As outs) := by
  simp only [Env.fills, ob]; cases e.fill1 A out <;> rfl
/-! ### A loop's head -/
theorem fold_nil {ε : Type} {f : Env → ε → Env} {e : Env} : List.foldl f e [] = e := _root_.id rfl
theorem fold_row {e : Env} {p : Nat × Nat × Nat} {l : List (Nat × Nat × Nat)} : List.foldl Env.rowStep e (p :: l) = List.foldl Env.rowStep (e.rowStep p) l := _root_.id rfl
theorem fold_bx {e : Env} {p : Nat × Nat × Nat × Nat} {l : List (Nat × Nat × Nat × Nat)} : List.foldl Env.bxStep e (p :: l) = List.foldl Env.bxStep (e.bxStep p) l := _root_.id rfl
theorem clr_eq {np : Nat} {rp keep : List Nat} {rows : List (Nat × Nat × Nat)} {bxs : List (Nat × Nat × Nat × Nat)} {e : Env} : e.clr np rp keep rows bxs = (bxs.foldl Env.bxStep (rows.foldl Env.rowStep e)).norm np rp keep := _root_.id rfl
def orE (x : Option Env) (e : Env) : Env := x.getD e
theorem orE_some {e1 e : Env} : orE (some e1) e = e1 := _root_.id rfl
def rowS (e : Env) (t E c : Nat) (A : AV) : Env := match A with
  | .nil => orE (e.newRow (some t) E c []) e
  | .ref d g v q j => if d = t ∧ q = [] ∧ j = 0 then e else match e.take1 (.ref d g v q j) with
    | some (.row E c l, e1) => orE (e1.newRow (some t) E c l) e
    | _ => e
  | _ => e
theorem rowStep_mk {ts : List AV} {os : List AObj} {t E c : Nat} : Env.rowStep ⟨ts, os⟩ (t, E, c) = rowS ⟨ts, os⟩ t E c (ts.getD t .unk) := by
  simp only [Env.rowStep, rowS]
  cases ts.getD t .unk <;> try rfl
  · simp only [orE]; cases Env.newRow ⟨ts, os⟩ (some t) E c [] <;> rfl
  · rename_i d g v q j
    dsimp only
    split
    · rfl
    · cases Env.take1 ⟨ts, os⟩ (.ref d g v q j) with
      | none => rfl
      | some r =>
        obtain ⟨B, e1⟩ := r
        cases B <;> try rfl
        rename_i E' c' l
        simp only [orE]
        cases e1.newRow (some t) E' c' l <;> rfl
theorem congr_rowS {e : Env} {t E c : Nat} {A A' : AV} (h : A = A') : rowS e t E c A = rowS e t E c A' := by rw [h]
theorem rowS_nil {e : Env} {t E c : Nat} : rowS e t E c .nil = orE (e.newRow (some t) E c []) e := _root_.id rfl
theorem rowS_ref {e : Env} {t E c d g v : Nat} {q : Path} {j : Nat} : rowS e t E c (.ref d g v q j) = if d = t ∧ q = [] ∧ j = 0 then e else (match e.take1 (.ref d g v q j) with
    | some (.row E c l, e1) => orE (e1.newRow (some t) E c l) e
    | _ => e) := _root_.id rfl
theorem rowS_unk {e : Env} {t E c : Nat} : rowS e t E c .unk = e := _root_.id rfl
theorem rowS_und {e : Env} {t E c : Nat} : rowS e t E c .und = e := _root_.id rfl
theorem rowS_sl {e : Env} {t E c : Nat} {l : List (List AV)} : rowS e t E c (.sl l) = e := _root_.id rfl
def bxC (ts : List AV) (os : List AObj) (d off E c : Nat) (g : Nat) (vs : List (List Rec)) (l : List AV) (x : Option AV) : Env := match x with
  | some .nil => ⟨ts, os.set d ⟨g, addRec vs [] off 1, .box (l.set off (.row E c []))⟩⟩
  | _ => ⟨ts, os⟩
def bxS (ts : List AV) (os : List AObj) (d off E c : Nat) (o : Option AObj) : Env := match o with
  | some o => match o.k with
    | .box l => bxC ts os d off E c o.gen o.vs l (l[off]?)
    | _ => ⟨ts, os⟩
  | none => ⟨ts, os⟩
theorem bxStep_mk {ts : List AV} {os : List AObj} {d off E c : Nat} : Env.bxStep ⟨ts, os⟩ (d, off, E, c) = bxS ts os d off E c (os[d]?) := by
  simp only [Env.bxStep, bxS]
  cases os[d]? with
  | none => rfl
  | some o =>
    obtain ⟨g, vs, k⟩ := o
    cases k <;> rfl
theorem congr_bxS {ts : List AV} {os : List AObj} {d off E c : Nat} {o o' : Option AObj} (h : o = o') : bxS ts os d off E c o = bxS ts os d off E c o' := by rw [h]
theorem bxS_box {ts : List AV} {os : List AObj} {d off E c g : Nat} {vs : List (List Rec)} {l : List AV} : bxS ts os d off E c (some ⟨g, vs, .box l⟩) = bxC ts os d off E c g vs l (l[off]?) := _root_.id rfl
theorem bxS_val {ts : List AV} {os : List AObj} {d off E c g : Nat} {vs : List (List Rec)} {l : List AV} : bxS ts os d off E c (some ⟨g, vs, .val l⟩) = ⟨ts, os⟩ := _root_.id rfl
theorem bxS_dead {ts : List AV} {os : List AObj} {d off E c g : Nat} {vs : List (List Rec)} : bxS ts os d off E c (some ⟨g, vs, .dead⟩) = ⟨ts, os⟩ := _root_.id rfl
theorem bxS_map {ts : List AV} {os : List AObj} {d off E c g : Nat} {vs : List (List Rec)} {l : List (AV × AV)} : bxS ts os d off E c (some ⟨g, vs, .map l⟩) = ⟨ts, os⟩ := _root_.id rfl
theorem bxC_nil {ts : List AV} {os : List AObj} {d off E c g : Nat} {vs : List (List Rec)} {l : List AV} : bxC ts os d off E c g vs l (some .nil) = ⟨ts, os.set d ⟨g, addRec vs [] off 1, .box (l.set off (.row E c []))⟩⟩ := _root_.id rfl
theorem bxC_row {ts : List AV} {os : List AObj} {d off E c g : Nat} {vs : List (List Rec)} {l : List AV} {E' c' : Nat} {m : List (List AV)} : bxC ts os d off E c g vs l (some (.row E' c' m)) = ⟨ts, os⟩ := _root_.id rfl
theorem bxC_sl {ts : List AV} {os : List AObj} {d off E c g : Nat} {vs : List (List Rec)} {l : List AV} {m : List (List AV)} : bxC ts os d off E c g vs l (some (.sl m)) = ⟨ts, os⟩ := _root_.id rfl
theorem bxC_unk {ts : List AV} {os : List AObj} {d off E c g : Nat} {vs : List (List Rec)} {l : List AV} : bxC ts os d off E c g vs l (some .unk) = ⟨ts, os⟩ := _root_.id rfl
theorem congr_bxC {ts : List AV} {os : List AObj} {d off E c g : Nat} {vs : List (List Rec)} {l : List AV} {x x' : Option AV} (h : x = x') : bxC ts os d off E c g vs l x = bxC ts os d off E c g vs l x' := by rw [h]
theorem norm_mk {np : Nat} {rp keep : List Nat} {ts : List AV} {os : List AObj} : Env.norm np rp keep ⟨ts, os⟩ = ⟨keepT np rp ⟨ts, os⟩ keep 0 ts, keepO np rp ((keepT np rp ⟨ts, os⟩ keep 0 ts).flatMap keysA) 0 os⟩ := _root_.id rfl
theorem keepT_nil {np : Nat} {rp keep : List Nat} {e : Env} {i : Nat} : keepT np rp e keep i [] = [] := _root_.id rfl
theorem keepT_cons {np : Nat} {rp keep : List Nat} {e : Env} {i : Nat} {A : AV} {l : List AV} : keepT np rp e keep i (A :: l) = (if keep.contains i = true then e.ren np rp A else .unk) :: keepT np rp e keep (i + 1) l := _root_.id rfl
theorem keepO_nil {np : Nat} {rp ks : List Nat} {i : Nat} : keepO np rp ks i [] = [] := _root_.id rfl
theorem keepO_cons {np : Nat} {rp ks : List Nat} {i : Nat} {o : AObj} {l : List AObj} : keepO np rp ks i (o :: l) = (if (decide (i < np) || ks.contains i) = true then normObj np rp i o else ⟨0, [], .dead⟩) :: keepO np rp ks (i + 1) l := _root_.id rfl
theorem normObj_mk {np : Nat} {rp : List Nat} {d g : Nat} {vs : List (List Rec)} {k : OK} : normObj np rp d ⟨g, vs, k⟩ = ⟨if d < np then g else 0, if (decide (d < np) && rp.contains d) = true then vs.map (fun l => l.filter fun r => r.1 == [] && r.2.2 != 0) else vs.map fun _ => [], k⟩ := _root_.id rfl
/-- Names. -/
def rnR (np : Nat) (rp : List Nat) (d g v : Nat) (q : Path) (j : Nat) (o : Option AObj) : AV := match o with
  | some o => if o.gen = g then (if o.ver q j = v then .ref d (normObj np rp d o).gen ((normObj np rp d o).ver q j) q j else .unk) else .unk
  | none => .unk
def rnP (np : Nat) (rp : List Nat) (d g v : Nat) (q : Path) (j : Nat) (o : Option AObj) : AV := match o with
  | some o => if o.gen = g then (match q with
      | [] => .ptr d (normObj np rp d o).gen 0 [] j
      | s :: q' => if o.ver q' s.1 = v then .ptr d (normObj np rp d o).gen ((normObj np rp d o).ver q' s.1) (s :: q') j else .unk) else .unk
  | none => .unk
def rnM (np : Nat) (rp : List Nat) (d g : Nat) (o : Option AObj) : AV := match o with
  | some o => if o.gen = g then .mref d (normObj np rp d o).gen else .unk
  | none => .unk
theorem ren_ref {np : Nat} {rp : List Nat} {ts : List AV} {os : List AObj} {d g v : Nat} {q : Path} {j : Nat} : Env.ren np rp ⟨ts, os⟩ (.ref d g v q j) = rnR np rp d g v q j (os[d]?) := by
  simp only [Env.ren, Env.ren1, Env.ren0, Env.obj, rnR]
  cases os[d]? with
  | none => rfl
  | some o => dsimp only; by_cases h : o.gen = g <;> simp [h]
theorem ren_ptr {np : Nat} {rp : List Nat} {ts : List AV} {os : List AObj} {d g v : Nat} {q : Path} {j : Nat} : Env.ren np rp ⟨ts, os⟩ (.ptr d g v q j) = rnP np rp d g v q j (os[d]?) := by
  simp only [Env.ren, Env.ren1, Env.ren0, Env.obj, rnP]
  cases os[d]? with
  | none => rfl
  | some o =>
    dsimp only
    by_cases h : o.gen = g
    · simp only [h, if_true]
      cases q <;> rfl
    · simp [h]
theorem ren_mref {np : Nat} {rp : List Nat} {ts : List AV} {os : List AObj} {d g : Nat} : Env.ren np rp ⟨ts, os⟩ (.mref d g) = rnM np rp d g (os[d]?) := by
  simp only [Env.ren, Env.ren1, Env.ren0, Env.obj, rnM]
  cases os[d]? with
  | none => rfl
  | some o => dsimp only; by_cases h : o.gen = g <;> simp [h]
theorem congr_rnR {np : Nat} {rp : List Nat} {d g v : Nat} {q : Path} {j : Nat} {o o' : Option AObj} (h : o = o') : rnR np rp d g v q j o = rnR np rp d g v q j o' := by rw [h]
theorem congr_rnP {np : Nat} {rp : List Nat} {d g v : Nat} {q : Path} {j : Nat} {o o' : Option AObj} (h : o = o') : rnP np rp d g v q j o = rnP np rp d g v q j o' := by rw [h]
theorem rnR_some {np : Nat} {rp : List Nat} {d g v : Nat} {q : Path} {j : Nat} {g' : Nat} {vs : List (List Rec)} {k : OK} : rnR np rp d g v q j (some ⟨g', vs, k⟩) = if g' = g then (if verL vs q j = v then .ref d (if d < np then g' else 0) (verL (normVs np rp d ⟨g', vs, k⟩) q j) q j else .unk) else .unk := _root_.id rfl
theorem rnP_nil {np : Nat} {rp : List Nat} {d g v : Nat} {j : Nat} {g' : Nat} {vs : List (List Rec)} {k : OK} : rnP np rp d g v [] j (some ⟨g', vs, k⟩) = if g' = g then .ptr d (if d < np then g' else 0) 0 [] j else .unk := _root_.id rfl
theorem rnP_cons {np : Nat} {rp : List Nat} {d g v : Nat} {s : Step} {q : Path} {j : Nat} {g' : Nat} {vs : List (List Rec)} {k : OK} : rnP np rp d g v (s :: q) j (some ⟨g', vs, k⟩) = if g' = g then (if verL vs q s.1 = v then .ptr d (if d < np then g' else 0) (verL (normVs np rp d ⟨g', vs, k⟩) q s.1) (s :: q) j else .unk) else .unk := _root_.id rfl
theorem rnM_some {np : Nat} {rp : List Nat} {d g : Nat} {g' : Nat} {vs : List (List Rec)} {k : OK} : rnM np rp d g (some ⟨g', vs, k⟩) = if g' = g then .mref d (if d < np then g' else 0) else .unk := _root_.id rfl
theorem normVs_mk {np : Nat} {rp : List Nat} {d g : Nat} {vs : List (List Rec)} {k : OK} : normVs np rp d ⟨g, vs, k⟩ = if (decide (d < np) && rp.contains d) = true then vs.map (fun l => l.filter fun r => r.1 == [] && r.2.2 != 0) else vs.map fun _ => [] := _root_.id rfl
theorem ren_unk {np : Nat} {rp : List Nat} {e : Env} : e.ren np rp .unk = .unk := _root_.id rfl
theorem ren_und {np : Nat} {rp : List Nat} {e : Env} : e.ren np rp .und = .und := _root_.id rfl
theorem ren_int {np : Nat} {rp : List Nat} {e : Env} {k : IntKind} {n : Int} : e.ren np rp (.int k n) = .int k n := _root_.id rfl
theorem ren_bool {np : Nat} {rp : List Nat} {e : Env} {b : Bool} : e.ren np rp (.bool b) = .bool b := _root_.id rfl
theorem ren_str {np : Nat} {rp : List Nat} {e : Env} {s : ByteArray} : e.ren np rp (.str s) = .str s := _root_.id rfl
theorem ren_nil {np : Nat} {rp : List Nat} {e : Env} : e.ren np rp .nil = .nil := _root_.id rfl
theorem ren_nilp {np : Nat} {rp : List Nat} {e : Env} : e.ren np rp .nilp = .nilp := _root_.id rfl
theorem ren_sl {np : Nat} {rp : List Nat} {e : Env} {l : List (List AV)} : e.ren np rp (.sl l) = .sl l := _root_.id rfl
theorem ren_el {np : Nat} {rp : List Nat} {e : Env} {l : List AV} : e.ren np rp (.el l) = .el l := _root_.id rfl
theorem ren_fn {np : Nat} {rp : List Nat} {e : Env} {f : Nat} {l : List AV} : e.ren np rp (.fn f l) = .fn f l := _root_.id rfl
theorem ren_agg {np : Nat} {rp : List Nat} {e : Env} {l : List AV} : e.ren np rp (.agg l) = .agg (l.map (e.ren0 np rp)) := _root_.id rfl
theorem ren_tup {np : Nat} {rp : List Nat} {e : Env} {l : List AV} : e.ren np rp (.tup l) = .tup (l.map (e.ren1 np rp)) := _root_.id rfl
theorem ren_fnp {np : Nat} {rp : List Nat} {e : Env} {f : Nat} {l : List AV} : e.ren np rp (.fnp f l) = .fnp f (l.map (e.ren1 np rp)) := _root_.id rfl
theorem ren1_agg {np : Nat} {rp : List Nat} {e : Env} {l : List AV} : e.ren1 np rp (.agg l) = .agg (l.map (e.ren0 np rp)) := _root_.id rfl
theorem ren0_pure {np : Nat} {rp : List Nat} {e : Env} {A : AV} (h : A.pure = true) : e.ren0 np rp A = A := by cases A <;> first | rfl | (cases h; done)
theorem ren1_pure {np : Nat} {rp : List Nat} {e : Env} {A : AV} (h : A.pure = true) : e.ren1 np rp A = A := by cases A <;> first | rfl | (cases h; done)
theorem ren0_ref {np : Nat} {rp : List Nat} {e : Env} {d g v : Nat} {q : Path} {j : Nat} : e.ren0 np rp (.ref d g v q j) = e.ren np rp (.ref d g v q j) := _root_.id rfl
theorem ren0_ptr {np : Nat} {rp : List Nat} {e : Env} {d g v : Nat} {q : Path} {j : Nat} : e.ren0 np rp (.ptr d g v q j) = e.ren np rp (.ptr d g v q j) := _root_.id rfl
theorem ren1_ref {np : Nat} {rp : List Nat} {e : Env} {d g v : Nat} {q : Path} {j : Nat} : e.ren1 np rp (.ref d g v q j) = e.ren np rp (.ref d g v q j) := _root_.id rfl
theorem ren1_ptr {np : Nat} {rp : List Nat} {e : Env} {d g v : Nat} {q : Path} {j : Nat} : e.ren1 np rp (.ptr d g v q j) = e.ren np rp (.ptr d g v q j) := _root_.id rfl
theorem ren_ite {np : Nat} {rp : List Nat} {e : Env} {c : Prop} [Decidable c] {A B : AV} : e.ren np rp (if c then A else B) = if c then e.ren np rp A else e.ren np rp B := by split <;> rfl
/-- Keys. -/
theorem kA_ref {d g v : Nat} {q : Path} {j : Nat} : keysA (.ref d g v q j) = [d] := _root_.id rfl
theorem kA_ptr {d g v : Nat} {q : Path} {j : Nat} : keysA (.ptr d g v q j) = [d] := _root_.id rfl
theorem kA_mref {d g : Nat} : keysA (.mref d g) = [d] := _root_.id rfl
theorem kA_unk : keysA .unk = [] := _root_.id rfl
theorem kA_und : keysA .und = [] := _root_.id rfl
theorem kA_int {k : IntKind} {n : Int} : keysA (.int k n) = [] := _root_.id rfl
theorem kA_bool {b : Bool} : keysA (.bool b) = [] := _root_.id rfl
theorem kA_str {s : ByteArray} : keysA (.str s) = [] := _root_.id rfl
theorem kA_nil : keysA .nil = [] := _root_.id rfl
theorem kA_nilp : keysA .nilp = [] := _root_.id rfl
theorem kA_sl {l : List (List AV)} : keysA (.sl l) = [] := _root_.id rfl
theorem kA_el {l : List AV} : keysA (.el l) = [] := _root_.id rfl
theorem kA_agg {l : List AV} : keysA (.agg l) = l.flatMap keys0 := _root_.id rfl
theorem kA_tup {l : List AV} : keysA (.tup l) = l.flatMap keys1 := _root_.id rfl
theorem kA_fn {f : Nat} {l : List AV} : keysA (.fn f l) = l.flatMap keys1 := _root_.id rfl
theorem kA_fnp {f : Nat} {l : List AV} : keysA (.fnp f l) = l.flatMap keys1 := _root_.id rfl
theorem k1_agg {l : List AV} : keys1 (.agg l) = l.flatMap keys0 := _root_.id rfl
theorem k0_pure {A : AV} (h : A.pure = true) : keys0 A = [] := by cases A <;> first | rfl | (cases h; done)
theorem k1_pure {A : AV} (h : A.pure = true) : keys1 A = [] := by cases A <;> first | rfl | (cases h; done)
theorem k0_ref {d g v : Nat} {q : Path} {j : Nat} : keys0 (.ref d g v q j) = [d] := _root_.id rfl
theorem k0_ptr {d g v : Nat} {q : Path} {j : Nat} : keys0 (.ptr d g v q j) = [d] := _root_.id rfl
theorem k1_ref {d g v : Nat} {q : Path} {j : Nat} : keys1 (.ref d g v q j) = [d] := _root_.id rfl
theorem k1_ptr {d g v : Nat} {q : Path} {j : Nat} : keys1 (.ptr d g v q j) = [d] := _root_.id rfl
theorem k1_el {l : List AV} : keys1 (.el l) = [] := _root_.id rfl
theorem k0_el {l : List AV} : keys0 (.el l) = [] := _root_.id rfl
theorem ren0_el {np : Nat} {rp : List Nat} {e : Env} {l : List AV} : e.ren0 np rp (.el l) = .el l := _root_.id rfl
theorem ren1_el {np : Nat} {rp : List Nat} {e : Env} {l : List AV} : e.ren1 np rp (.el l) = .el l := _root_.id rfl
theorem kA_bool_ite {c : Prop} [Decidable c] {a b : Bool} : keysA (if c then .bool a else .bool b) = [] := by split <;> rfl
theorem kA_und_ite {c : Prop} [Decidable c] {a : Bool} : keysA (if c then .bool a else .und) = [] := by split <;> rfl
/-! ### Results -/
def onFin (f : F) (as : List AV) (x : Option (AV × Env)) : Option AV := match x with
  | some (A, e1) => if as.any isLent = true then ob (outsOf e1 0 as) (fun outs => some (.io A outs)) else (match A with
      | .io .. => none
      | A => some A)
  | none => none
theorem fin_eq {f : F} {as : List AV} {e : Env} : f.finish as e = onFin f as (resultsA f.np f.res e) := by
  simp only [F.finish, onFin]
  cases resultsA f.np f.res e with
  | none => rfl
  | some r =>
    obtain ⟨A, e1⟩ := r
    dsimp only
    split
    · simp only [ob]; cases outsOf e1 0 as <;> rfl
    · cases A <;> rfl
theorem congr_onFin {f : F} {as : List AV} {x x' : Option (AV × Env)} (h : x = x') : onFin f as x = onFin f as x' := by rw [h]
def notIo : AV → Bool
  | .io .. => false
  | _ => true
theorem onFin_some {f : F} {as : List AV} {A : AV} {e : Env} : onFin f as (some (A, e)) = if as.any isLent = true then ob (outsOf e 0 as) (fun outs => some (.io A outs)) else if notIo A = true then some A else none := by
  simp only [onFin]
  split
  · rfl
  · cases A <;> rfl
theorem notIo_io {A : AV} {l : List AV} : notIo (.io A l) = false := _root_.id rfl
theorem resVs_nil {e : Env} : resVs e [] = some [] := _root_.id rfl
theorem resVs_cons {e : Env} {r : RV} {rs : List RV} : resVs e (r :: rs) = ob (resV e r) (fun A => ob (resVs e rs) fun l => some ((A, r.nilRow) :: l)) := by
  simp only [resVs, ob]
  cases resV e r with
  | none => rfl
  | some A => dsimp only; cases resVs e rs <;> rfl
theorem resV_tmp {ts : List AV} {os : List AObj} {t : Nat} : resV ⟨ts, os⟩ (.tmp t) = some (ts.getD t .unk) := _root_.id rfl
theorem resV_tsl {ts : List AV} {os : List AObj} {t E c : Nat} : resV ⟨ts, os⟩ (.tsl t E c) = some (ts.getD t .unk) := _root_.id rfl
theorem resV_cell {ts : List AV} {os : List AObj} {t : Nat} : resV ⟨ts, os⟩ (.cell t none) = ldV ⟨ts, os⟩ (ts.getD t .unk) := act_ld1
theorem resV_celln {ts : List AV} {os : List AObj} {t n : Nat} : resV ⟨ts, os⟩ (.cell t (some n)) = ldN ⟨ts, os⟩ n (ts.getD t .unk) := act_ldn
theorem resV_csl {ts : List AV} {os : List AObj} {t E c : Nat} : resV ⟨ts, os⟩ (.csl t E c) = ldV ⟨ts, os⟩ (ts.getD t .unk) := act_ld1
theorem nr_tmp {t : Nat} : RV.nilRow (.tmp t) = none := _root_.id rfl
theorem nr_tsl {t E c : Nat} : RV.nilRow (.tsl t E c) = some (E, c) := _root_.id rfl
theorem nr_cell {t : Nat} {n : Option Nat} : RV.nilRow (.cell t n) = none := _root_.id rfl
theorem nr_csl {t E c : Nat} : RV.nilRow (.csl t E c) = some (E, c) := _root_.id rfl
/-- Is none of them an address? -/
def noPtr (l : List (AV × Option (Nat × Nat))) : Bool := l.all fun p => !isPtr p.1
theorem find_none {l : List (AV × Option (Nat × Nat))} (h : noPtr l = true) : l.find? (fun p => isPtr p.1) = none := by
  rw [List.find?_eq_none]
  intro p hp
  have := List.all_eq_true.1 h p hp
  simpa using this
def resP (np : Nat) (e : Env) (Vs : List (AV × Option (Nat × Nat))) : Option (AV × Env) := match Vs.find? fun p => isPtr p.1 with
    | some (.ptr d g v _ _, _) => if np ≤ d then (match e.cellsP d g v [] with
        | some l => match bxGo d g l Vs with
          | some m => some (tupOf m, e)
          | none => none
        | none => none) else none
    | _ => match resGo e Vs with
      | some (m, e1) => some (tupOf m, e1)
      | none => none
theorem resultsA_eq {np : Nat} {rs : List RV} {e : Env} : resultsA np rs e = ob (resVs e rs) (resP np e) := by
  simp only [resultsA, ob]; cases resVs e rs <;> rfl
theorem resP_go {np : Nat} {e : Env} {Vs : List (AV × Option (Nat × Nat))} (h : noPtr Vs = true) : resP np e Vs = ob2 (resGo e Vs) (fun m e1 => some (tupOf m, e1)) := by
  simp only [resP, find_none h, ob2]; cases resGo e Vs <;> rfl
theorem resP_bx {np : Nat} {e : Env} {d g v : Nat} {q : Path} {j : Nat} {fx : Option (Nat × Nat)} {rest : List (AV × Option (Nat × Nat))} : resP np e ((.ptr d g v q j, fx) :: rest) = if np ≤ d then ob (e.cellsP d g v []) (fun l => ob (bxGo d g l ((.ptr d g v q j, fx) :: rest)) fun m => some (tupOf m, e)) else none := by
  simp only [resP, List.find?_cons, isPtr, ob]
  split
  · cases e.cellsP d g v [] with
    | none => rfl
    | some l => dsimp only; cases bxGo d g l ((.ptr d g v q j, fx) :: rest) <;> rfl
  · rfl
theorem bxGo_nil {d g : Nat} {l : List AV} : bxGo d g l [] = some [] := _root_.id rfl
theorem bxGo_ptr {d g : Nat} {l : List AV} {d' g' v : Nat} {q : Path} {j : Nat} {fx : Option (Nat × Nat)} {rest : List (AV × Option (Nat × Nat))} : bxGo d g l ((.ptr d' g' v q j, fx) :: rest) = ob (bxGo d g l rest) (fun m => if d' = d ∧ g' = g ∧ q = [] ∧ j = 0 then some (.bx l :: m) else none) := by
  simp only [bxGo, ob]; cases bxGo d g l rest <;> rfl
theorem bxGo_pure {d g : Nat} {l : List AV} {A : AV} {fx : Option (Nat × Nat)} {rest : List (AV × Option (Nat × Nat))} (h : A.pure = true) : bxGo d g l ((A, fx) :: rest) = ob (bxGo d g l rest) (fun m => some (A :: m)) := by
  simp only [bxGo, ob]
  cases bxGo d g l rest with
  | none => rfl
  | some m => cases A <;> first | rfl | (cases h; done)
theorem resGo_nil {e : Env} : resGo e [] = some ([], e) := _root_.id rfl
def notAgg : AV → Bool
  | .agg _ => false
  | _ => true
theorem resGo_agg {e : Env} {l : List AV} {fx : Option (Nat × Nat)} {rest : List (AV × Option (Nat × Nat))} : resGo e ((.agg l, fx) :: rest) = ob2 (e.takes l) (fun ps e1 => ob2 (resGo e1 rest) fun m e2 => some (.agg ps :: m, e2)) := by
  simp only [resGo, ob2]
  cases e.takes l with
  | none => rfl
  | some r => obtain ⟨ps, e1⟩ := r; dsimp only; cases resGo e1 rest <;> rfl
theorem resGo_one {e : Env} {A : AV} {fx : Option (Nat × Nat)} {rest : List (AV × Option (Nat × Nat))} (h : notAgg A = true) : resGo e ((A, fx) :: rest) = ob2 (e.take1 A) (fun B e1 => ob2 (resGo e1 rest) fun m e2 => some (nilFix fx B :: m, e2)) := by
  have : resGo e ((A, fx) :: rest) = (match e.take1 A with
      | some (B, e1) => match resGo e1 rest with
        | some (m, e2) => some (nilFix fx B :: m, e2)
        | none => none
      | none => none) := by cases A <;> first | rfl | (cases h; done)
  rw [this]
  simp only [ob2]
  cases e.take1 A with
  | none => rfl
  | some r => obtain ⟨B, e1⟩ := r; dsimp only; cases resGo e1 rest <;> rfl
theorem resGo_pure {e : Env} {A : AV} {fx : Option (Nat × Nat)} {rest : List (AV × Option (Nat × Nat))} (h : A.pure = true) : resGo e ((A, fx) :: rest) = ob2 (resGo e rest) (fun m e2 => some (nilFix fx A :: m, e2)) := by
  rw [resGo_one (by cases A <;> first | rfl | (cases h; done))]
  have : e.take1 A = some (A, e) := by cases A <;> first | rfl | (cases h; done)
  rw [this]; rfl
theorem resGo_ref {e : Env} {d g v : Nat} {q : Path} {j : Nat} {fx : Option (Nat × Nat)} {rest : List (AV × Option (Nat × Nat))} : resGo e ((.ref d g v q j, fx) :: rest) = ob2 (e.take1 (.ref d g v q j)) (fun B e1 => ob2 (resGo e1 rest) fun m e2 => some (nilFix fx B :: m, e2)) := resGo_one rfl
theorem nf_none {A : AV} : nilFix none A = A := by cases A <;> rfl
theorem nf_nil {E c : Nat} : nilFix (some (E, c)) .nil = .row E c [] := _root_.id rfl
theorem nf_row {p : Option (Nat × Nat)} {E c : Nat} {l : List (List AV)} : nilFix p (.row E c l) = .row E c l := by cases p <;> rfl
theorem nf_sl {p : Option (Nat × Nat)} {l : List (List AV)} : nilFix p (.sl l) = .sl l := by cases p <;> rfl
theorem tupOf_1 {A : AV} : tupOf [A] = A := _root_.id rfl
theorem tupOf_0 : tupOf [] = .tup [] := _root_.id rfl
theorem tupOf_2 {A B : AV} {l : List AV} : tupOf (A :: B :: l) = .tup (A :: B :: l) := _root_.id rfl
theorem outs_nil {e : Env} {k : Nat} : outsOf e k [] = some [] := _root_.id rfl
theorem outs_row {e : Env} {k E c : Nat} {l : List (List AV)} {as : List AV} : outsOf e k (.row E c l :: as) = ob (outsOf e (k + 1) as) (fun m => some ((lentR (e.cellR k 1 0 [] 0)).getD .unk :: m)) := by
  simp only [outsOf, isLent, if_true, outOf, ob, lentR]
  cases outsOf e (k + 1) as with
  | none => rfl
  | some m =>
    cases e.cellR k 1 0 [] 0 with
    | none => rfl
    | some A => cases A <;> rfl
theorem outs_bx {ts : List AV} {os : List AObj} {k : Nat} {l : List AV} {as : List AV} : outsOf ⟨ts, os⟩ k (.bx l :: as) = obO (os[k]?) (fun g _ o => if g = 1 then onBx o fun m => ob (outsOf ⟨ts, os⟩ (k + 1) as) fun ms => some (.bx m :: ms) else none) := by
  simp only [outsOf, isLent, if_true, outOf, Env.obj, obO, ob]
  cases os[k]? with
  | none => rfl
  | some o =>
    obtain ⟨g, vs, o⟩ := o
    dsimp only
    by_cases h : g = 1
    · simp only [h, if_true]
      cases o <;> simp only [onBx]
      cases outsOf ⟨ts, os⟩ (k + 1) as <;> rfl
    · simp only [h, if_false]
theorem outs_skip {e : Env} {k : Nat} {A : AV} {as : List AV} (h : isLent A = false) : outsOf e k (A :: as) = outsOf e (k + 1) as := by
  simp only [outsOf, h]; rfl
theorem isL_row {E c : Nat} {l : List (List AV)} : isLent (.row E c l) = true := _root_.id rfl
theorem isL_bx {l : List AV} : isLent (.bx l) = true := _root_.id rfl
theorem isL_pure {A : AV} (h : A.pure = true) : isLent A = false := by cases A <;> first | rfl | (cases h; done)
theorem isL_agg {l : List AV} : isLent (.agg l) = false := _root_.id rfl
theorem isL_el {l : List AV} : isLent (.el l) = false := _root_.id rfl
/-! ### Purity -/
theorem pure_int {k : IntKind} {n : Int} : AV.pure (.int k n) = true := _root_.id rfl
theorem pure_bool {b : Bool} : AV.pure (.bool b) = true := _root_.id rfl
theorem pure_str {s : ByteArray} : AV.pure (.str s) = true := _root_.id rfl
theorem pure_nil : AV.pure .nil = true := _root_.id rfl
theorem pure_nilp : AV.pure .nilp = true := _root_.id rfl
theorem pure_sl {l : List (List AV)} : AV.pure (.sl l) = true := _root_.id rfl
theorem pure_fn {f : Nat} {l : List AV} : AV.pure (.fn f l) = true := _root_.id rfl
theorem pure_ref {d g v : Nat} {q : Path} {j : Nat} : AV.pure (.ref d g v q j) = false := _root_.id rfl
theorem pure_ptr {d g v : Nat} {q : Path} {j : Nat} : AV.pure (.ptr d g v q j) = false := _root_.id rfl
theorem pure_row {E c : Nat} {l : List (List AV)} : AV.pure (.row E c l) = false := _root_.id rfl
theorem pure_mref {d g : Nat} : AV.pure (.mref d g) = false := _root_.id rfl
theorem flat_int {k : IntKind} {n : Int} : AV.flat (.int k n) = true := _root_.id rfl
theorem flat_bool {b : Bool} : AV.flat (.bool b) = true := _root_.id rfl
theorem flat_str {s : ByteArray} : AV.flat (.str s) = true := _root_.id rfl
theorem flat_nil : AV.flat .nil = true := _root_.id rfl
theorem flat_nilp : AV.flat .nilp = true := _root_.id rfl
theorem flat_sl {l : List (List AV)} : AV.flat (.sl l) = false := _root_.id rfl
theorem flat_row {E c : Nat} {l : List (List AV)} : AV.flat (.row E c l) = false := _root_.id rfl
theorem quiet_int {k : IntKind} {n : Int} : AV.quiet (.int k n) = true := _root_.id rfl
theorem quiet_bool {b : Bool} : AV.quiet (.bool b) = true := _root_.id rfl
theorem quiet_str {s : ByteArray} : AV.quiet (.str s) = true := _root_.id rfl
theorem quiet_nil : AV.quiet .nil = true := _root_.id rfl
theorem quiet_nilp : AV.quiet .nilp = true := _root_.id rfl
theorem quiet_fn {f : Nat} {l : List AV} : AV.quiet (.fn f l) = true := _root_.id rfl
theorem quiet_row {E c : Nat} {l : List (List AV)} : AV.quiet (.row E c l) = false := _root_.id rfl
theorem quiet_sl {l : List (List AV)} : AV.quiet (.sl l) = false := _root_.id rfl
theorem whole_row {E c : Nat} {l : List (List AV)} : AV.whole (.row E c l) = true := _root_.id rfl
theorem whole_int {k : IntKind} {n : Int} : AV.whole (.int k n) = true := _root_.id rfl
theorem whole_bool {b : Bool} : AV.whole (.bool b) = true := _root_.id rfl
theorem whole_str {s : ByteArray} : AV.whole (.str s) = true := _root_.id rfl
theorem whole_nil : AV.whole .nil = true := _root_.id rfl
theorem whole_nilp : AV.whole .nilp = true := _root_.id rfl
theorem whole_sl {l : List (List AV)} : AV.whole (.sl l) = true := _root_.id rfl
theorem whole_fn {f : Nat} {l : List AV} : AV.whole (.fn f l) = true := _root_.id rfl
theorem allWhole_nil : allWhole [] = true := _root_.id rfl
theorem allWhole_cons {x : List AV} {l : List (List AV)} : allWhole (x :: l) = (x.all AV.whole && allWhole l) := _root_.id rfl
/-! ### Beginnings -/
theorem sT_nil {k : Nat} : startT k [] = [] := _root_.id rfl
theorem sT_cons {k : Nat} {A : AV} {as : List AV} : startT k (A :: as) = startT1 k A :: startT (k + 1) as := _root_.id rfl
theorem sT_row {k E c : Nat} {l : List (List AV)} : startT1 k (.row E c l) = .ref k 1 0 [] 0 := _root_.id rfl
theorem sT_bx {k : Nat} {l : List AV} : startT1 k (.bx l) = .ptr k 1 0 [] 0 := _root_.id rfl
theorem sT_pure {k : Nat} {A : AV} (h : A.pure = true) : startT1 k A = A := by cases A <;> first | rfl | (cases h; done)
theorem sT_agg {k : Nat} {l : List AV} : startT1 k (.agg l) = .agg l := _root_.id rfl
theorem sT_el {k : Nat} {l : List AV} : startT1 k (.el l) = .el l := _root_.id rfl
theorem sO_nil : startO [] = [] := _root_.id rfl
theorem sO_cons {A : AV} {as : List AV} : startO (A :: as) = startO1 A :: startO as := _root_.id rfl
theorem sO_row {E c : Nat} {l : List (List AV)} : startO1 (.row E c l) = ⟨1, [[]], .val [.row E c l]⟩ := _root_.id rfl
theorem sO_bx {l : List AV} : startO1 (.bx l) = ⟨1, List.replicate l.length [], .box l⟩ := _root_.id rfl
theorem sO_pure {A : AV} (h : A.pure = true) : startO1 A = ⟨0, [], .dead⟩ := by cases A <;> first | rfl | (cases h; done)
theorem sO_agg {l : List AV} : startO1 (.agg l) = ⟨0, [], .dead⟩ := _root_.id rfl
theorem sO_el {l : List AV} : startO1 (.el l) = ⟨0, [], .dead⟩ := _root_.id rfl
theorem start_eq {f : F} {as : List AV} : f.start as = ⟨startT 0 as ++ List.replicate (f.nt - as.length) .unk, startO as ++ List.replicate (f.nt - as.length) ⟨0, [], .dead⟩⟩ := _root_.id rfl
/-! ### Footprints -/
theorem fp_eq {d : Option Nat} {o : O} {gd : Option (Nat × Bool)} {e : Env} : OP.fp ⟨d, o, gd⟩ e = (o.keys e d, o.wr e d) := _root_.id rfl
theorem ks_nil {e : Env} : ks e [] = [] := _root_.id rfl
theorem ks_cons {e : Env} {x : X} {xs : List X} : ks e (x :: xs) = keysA (e.get x) ++ ks e xs := _root_.id rfl
end
end Go.Nv
/- BY VALUE, with trees. Part 51: the rewriting rules, bundled. Written by my own program (gen/bun). -/
set_option maxRecDepth 100000
set_option linter.defProp false
namespace Go.Nv
theorem allPure_nil : allPure [] = true := _root_.id rfl
theorem allPure_cons {x : List AV} {l : List (List AV)} : allPure (x :: l) = (x.all AV.pure && allPure l) := _root_.id rfl
theorem flats_nil : flats [] = true := _root_.id rfl
theorem flats_cons {x : List AV} {l : List (List AV)} : flats (x :: l) = (x.all AV.flat && flats l) := _root_.id rfl
theorem nw_mv {x : X} : O.isA (.mv x) = true := _root_.id rfl
theorem cls_mv {x : X} : O.cls (.mv x) = 0 := _root_.id rfl
theorem xs_mv {x : X} : O.xs (.mv x) = ([x] : List X) := _root_.id rfl
theorem nw_pick {c a b : X} : O.isA (.pick c a b) = true := _root_.id rfl
theorem cls_pick {c a b : X} : O.cls (.pick c a b) = 0 := _root_.id rfl
theorem xs_pick {c a b : X} : O.xs (.pick c a b) = ([c, a, b] : List X) := _root_.id rfl
theorem nw_box {x : X} : O.isA (.box x) = false := _root_.id rfl
theorem cls_box {x : X} : O.cls (.box x) = 2 := _root_.id rfl
theorem xs_box {x : X} : O.xs (.box x) = ([x] : List X) := _root_.id rfl
theorem nw_new {z : List AV} : O.isA (.new z) = false := _root_.id rfl
theorem cls_new {z : List AV} : O.cls (.new z) = 2 := _root_.id rfl
theorem xs_new {z : List AV} : O.xs (.new z) = ([] : List X) := _root_.id rfl
theorem nw_bld {z : List AV} {ps : List (Nat × Nat × X)} : O.isA (.bld z ps) = true := _root_.id rfl
theorem cls_bld {z : List AV} {ps : List (Nat × Nat × X)} : O.cls (.bld z ps) = 0 := _root_.id rfl
theorem xs_bld {z : List AV} {ps : List (Nat × Nat × X)} : O.xs (.bld z ps) = (ps.map fun p => p.2.2 : List X) := _root_.id rfl
theorem nw_lit {E c : Nat} {xs : List X} : O.isA (.lit E c xs) = false := _root_.id rfl
theorem cls_lit {E c : Nat} {xs : List X} : O.cls (.lit E c xs) = 2 := _root_.id rfl
theorem xs_lit {E c : Nat} {xs : List X} : O.xs (.lit E c xs) = (xs : List X) := _root_.id rfl
theorem nw_ld {n : Option Nat} {p : X} : O.isA (.ld n p) = true := _root_.id rfl
theorem cls_ld {n : Option Nat} {p : X} : O.cls (.ld n p) = 1 := _root_.id rfl
theorem xs_ld {n : Option Nat} {p : X} : O.xs (.ld n p) = ([p] : List X) := _root_.id rfl
theorem nw_st {n : Nat} {p x : X} : O.isA (.st n p x) = false := _root_.id rfl
theorem cls_st {n : Nat} {p x : X} : O.cls (.st n p x) = 2 := _root_.id rfl
theorem xs_st {n : Nat} {p x : X} : O.xs (.st n p x) = ([p, x] : List X) := _root_.id rfl
theorem nw_fa {off n : Nat} {p : X} : O.isA (.fa off n p) = true := _root_.id rfl
theorem cls_fa {off n : Nat} {p : X} : O.cls (.fa off n p) = 0 := _root_.id rfl
theorem xs_fa {off n : Nat} {p : X} : O.xs (.fa off n p) = ([p] : List X) := _root_.id rfl
theorem nw_ia {c : Nat} {x i : X} : O.isA (.ia c x i) = true := _root_.id rfl
theorem cls_ia {c : Nat} {x i : X} : O.cls (.ia c x i) = 1 := _root_.id rfl
theorem xs_ia {c : Nat} {x i : X} : O.xs (.ia c x i) = ([x, i] : List X) := _root_.id rfl
theorem nw_ix {x i : X} : O.isA (.ix x i) = true := _root_.id rfl
theorem cls_ix {x i : X} : O.cls (.ix x i) = 0 := _root_.id rfl
theorem xs_ix {x i : X} : O.xs (.ix x i) = ([x, i] : List X) := _root_.id rfl
theorem nw_subs {x : X} {lo hi : Option X} : O.isA (.subs x lo hi) = true := _root_.id rfl
theorem cls_subs {x : X} {lo hi : Option X} : O.cls (.subs x lo hi) = 0 := _root_.id rfl
theorem xs_subs {x : X} {lo hi : Option X} : O.xs (.subs x lo hi) = (x :: (lo.toList ++ hi.toList) : List X) := _root_.id rfl
theorem nw_sub {c : Nat} {x : X} {lo hi : Option X} : O.isA (.sub c x lo hi) = false := _root_.id rfl
theorem cls_sub {c : Nat} {x : X} {lo hi : Option X} : O.cls (.sub c x lo hi) = 2 := _root_.id rfl
theorem xs_sub {c : Nat} {x : X} {lo hi : Option X} : O.xs (.sub c x lo hi) = (x :: (lo.toList ++ hi.toList) : List X) := _root_.id rfl
theorem nw_mk {E c by_ : Nat} {z : List AV} {n : X} : O.isA (.mk E c by_ z n) = false := _root_.id rfl
theorem cls_mk {E c by_ : Nat} {z : List AV} {n : X} : O.cls (.mk E c by_ z n) = 2 := _root_.id rfl
theorem xs_mk {E c by_ : Nat} {z : List AV} {n : X} : O.xs (.mk E c by_ z n) = ([n] : List X) := _root_.id rfl
theorem nw_bin {op : BinOp} {x y : X} : O.isA (.bin op x y) = true := _root_.id rfl
theorem cls_bin {op : BinOp} {x y : X} : O.cls (.bin op x y) = 0 := _root_.id rfl
theorem xs_bin {op : BinOp} {x y : X} : O.xs (.bin op x y) = ([x, y] : List X) := _root_.id rfl
theorem nw_beq {ne : Bool} {x y : X} : O.isA (.beq ne x y) = true := _root_.id rfl
theorem cls_beq {ne : Bool} {x y : X} : O.cls (.beq ne x y) = 0 := _root_.id rfl
theorem xs_beq {ne : Bool} {x y : X} : O.xs (.beq ne x y) = ([x, y] : List X) := _root_.id rfl
theorem nw_eqs {ne : Bool} {ks : List CK} {x y : X} : O.isA (.eqs ne ks x y) = true := _root_.id rfl
theorem cls_eqs {ne : Bool} {ks : List CK} {x y : X} : O.cls (.eqs ne ks x y) = 0 := _root_.id rfl
theorem xs_eqs {ne : Bool} {ks : List CK} {x y : X} : O.xs (.eqs ne ks x y) = ([x, y] : List X) := _root_.id rfl
theorem nw_un {op : UnOp} {x : X} : O.isA (.un op x) = true := _root_.id rfl
theorem cls_un {op : UnOp} {x : X} : O.cls (.un op x) = 0 := _root_.id rfl
theorem xs_un {op : UnOp} {x : X} : O.xs (.un op x) = ([x] : List X) := _root_.id rfl
theorem nw_cvi {k : IntKind} {x : X} : O.isA (.cvi k x) = true := _root_.id rfl
theorem cls_cvi {k : IntKind} {x : X} : O.cls (.cvi k x) = 0 := _root_.id rfl
theorem xs_cvi {k : IntKind} {x : X} : O.xs (.cvi k x) = ([x] : List X) := _root_.id rfl
theorem nw_cvs {x : X} : O.isA (.cvs x) = true := _root_.id rfl
theorem cls_cvs {x : X} : O.cls (.cvs x) = 0 := _root_.id rfl
theorem xs_cvs {x : X} : O.xs (.cvs x) = ([x] : List X) := _root_.id rfl
theorem nw_cvsb {E : Nat} {x : X} : O.isA (.cvsb E x) = false := _root_.id rfl
theorem cls_cvsb {E : Nat} {x : X} : O.cls (.cvsb E x) = 0 := _root_.id rfl
theorem xs_cvsb {E : Nat} {x : X} : O.xs (.cvsb E x) = ([x] : List X) := _root_.id rfl
theorem nw_cvbs {x : X} : O.isA (.cvbs x) = true := _root_.id rfl
theorem cls_cvbs {x : X} : O.cls (.cvbs x) = 1 := _root_.id rfl
theorem xs_cvbs {x : X} : O.xs (.cvbs x) = ([x] : List X) := _root_.id rfl
theorem nw_lens {x : X} : O.isA (.lens x) = true := _root_.id rfl
theorem cls_lens {x : X} : O.cls (.lens x) = 0 := _root_.id rfl
theorem xs_lens {x : X} : O.xs (.lens x) = ([x] : List X) := _root_.id rfl
theorem nw_len {x : X} : O.isA (.len x) = true := _root_.id rfl
theorem cls_len {x : X} : O.cls (.len x) = 1 := _root_.id rfl
theorem xs_len {x : X} : O.xs (.len x) = ([x] : List X) := _root_.id rfl
theorem nw_app {E c by_ : Nat} {s x : X} : O.isA (.app E c by_ s x) = false := _root_.id rfl
theorem cls_app {E c by_ : Nat} {s x : X} : O.cls (.app E c by_ s x) = 2 := _root_.id rfl
theorem xs_app {E c by_ : Nat} {s x : X} : O.xs (.app E c by_ s x) = ([s, x] : List X) := _root_.id rfl
theorem nw_apps {E : Nat} {s x : X} : O.isA (.apps E s x) = false := _root_.id rfl
theorem cls_apps {E : Nat} {s x : X} : O.cls (.apps E s x) = 2 := _root_.id rfl
theorem xs_apps {E : Nat} {s x : X} : O.xs (.apps E s x) = ([s, x] : List X) := _root_.id rfl
theorem nw_cpy {E c by_ : Nat} {x : X} : O.isA (.cpy E c by_ x) = false := _root_.id rfl
theorem cls_cpy {E c by_ : Nat} {x : X} : O.cls (.cpy E c by_ x) = 2 := _root_.id rfl
theorem xs_cpy {E c by_ : Nat} {x : X} : O.xs (.cpy E c by_ x) = ([x] : List X) := _root_.id rfl
theorem nw_mnx {mx : Bool} {x y : X} : O.isA (.mnx mx x y) = true := _root_.id rfl
theorem cls_mnx {mx : Bool} {x y : X} : O.cls (.mnx mx x y) = 0 := _root_.id rfl
theorem xs_mnx {mx : Bool} {x y : X} : O.xs (.mnx mx x y) = ([x, y] : List X) := _root_.id rfl
theorem nw_ext {x : X} {i : Nat} : O.isA (.ext x i) = true := _root_.id rfl
theorem cls_ext {x : X} {i : Nat} : O.cls (.ext x i) = 0 := _root_.id rfl
theorem xs_ext {x : X} {i : Nat} : O.xs (.ext x i) = ([x] : List X) := _root_.id rfl
theorem nw_call {f : Nat} {ms : List Md} {xs : List X} : O.isA (.call f ms xs) = false := _root_.id rfl
theorem cls_call {f : Nat} {ms : List Md} {xs : List X} : O.cls (.call f ms xs) = 2 := _root_.id rfl
theorem xs_call {f : Nat} {ms : List Md} {xs : List X} : O.xs (.call f ms xs) = (xs : List X) := _root_.id rfl
theorem nw_nck {x : X} : O.isA (.nck x) = true := _root_.id rfl
theorem cls_nck {x : X} : O.cls (.nck x) = 0 := _root_.id rfl
theorem xs_nck {x : X} : O.xs (.nck x) = ([x] : List X) := _root_.id rfl
theorem nw_clo {f : Nat} {xs : List X} : O.isA (.clo f xs) = false := _root_.id rfl
theorem cls_clo {f : Nat} {xs : List X} : O.cls (.clo f xs) = 0 := _root_.id rfl
theorem xs_clo {f : Nat} {xs : List X} : O.xs (.clo f xs) = (xs : List X) := _root_.id rfl
theorem nw_calld {x : X} {xs : List X} : O.isA (.calld x xs) = false := _root_.id rfl
theorem cls_calld {x : X} {xs : List X} : O.cls (.calld x xs) = 2 := _root_.id rfl
theorem xs_calld {x : X} {xs : List X} : O.xs (.calld x xs) = (x :: xs : List X) := _root_.id rfl
theorem nw_mkm  : O.isA (.mkm ) = false := _root_.id rfl
theorem cls_mkm  : O.cls (.mkm ) = 2 := _root_.id rfl
theorem xs_mkm  : O.xs (.mkm ) = ([] : List X) := _root_.id rfl
theorem nw_mset {kd : Option IntKind} {m k v : X} : O.isA (.mset kd m k v) = false := _root_.id rfl
theorem cls_mset {kd : Option IntKind} {m k v : X} : O.cls (.mset kd m k v) = 2 := _root_.id rfl
theorem xs_mset {kd : Option IntKind} {m k v : X} : O.xs (.mset kd m k v) = ([m, k, v] : List X) := _root_.id rfl
theorem nw_lkp {z : AV} {ok : Bool} {kd : Option IntKind} {m k : X} : O.isA (.lkp z ok kd m k) = true := _root_.id rfl
theorem cls_lkp {z : AV} {ok : Bool} {kd : Option IntKind} {m k : X} : O.cls (.lkp z ok kd m k) = 1 := _root_.id rfl
theorem xs_lkp {z : AV} {ok : Bool} {kd : Option IntKind} {m k : X} : O.xs (.lkp z ok kd m k) = ([m, k] : List X) := _root_.id rfl
theorem nw_isn {p ne : Bool} {x : X} : O.isA (.isn p ne x) = true := _root_.id rfl
theorem cls_isn {p ne : Bool} {x : X} : O.cls (.isn p ne x) = (if p = true then 0 else 1) := _root_.id rfl
theorem xs_isn {p ne : Bool} {x : X} : O.xs (.isn p ne x) = ([x] : List X) := _root_.id rfl
theorem nw_clof {f : Nat} {xs : List X} : O.isA (.clof f xs) = false := _root_.id rfl
theorem cls_clof {f : Nat} {xs : List X} : O.cls (.clof f xs) = 2 := _root_.id rfl
theorem xs_clof {f : Nat} {xs : List X} : O.xs (.clof f xs) = (xs : List X) := _root_.id rfl
def simPre := And.intro @bindOps_nil (And.intro @bindOps_a (And.intro @bindOps_w (And.intro @bindOps_gt (And.intro @bindOps_gf (And.intro @bindOps_gtw (And.intro @bindOps_gfw (And.intro @bindD_nil (And.intro @bindD_cons (And.intro @bindC_skip (And.intro @bindC_exit (And.intro @bindC_ret (And.intro @bindC_reg (And.intro @bindC_drw (And.intro @drwK_eq (And.intro @bindC_seq (And.intro @seqK_normal (And.intro @seqK_exit (And.intro @seqK_ret (And.intro @bindC_cond (And.intro @bindC_blk (And.intro @blkK_normal (And.intro @blkK_ret (And.intro @blkK_exit (And.intro @bindC_loop (And.intro @roundK_normal (And.intro @roundK_exit (And.intro @roundK_ret (And.intro @finK_normal (And.intro @finK_ret (And.intro @onBx_box (And.intro @onCl_box (And.intro @onCl_val (And.intro @onMp_map (And.intro @lgz (And.intro @lgs (And.intro @lg8 (And.intro @lqz (And.intro @lqs (And.intro @lq8 (And.intro @lsz (And.intro @lss (And.intro @ls8 (And.intro @get_t (And.intro @get_c (And.intro @tmps_mk (And.intro @objs_mk (And.intro @obj_mk (And.intro @cellR_mk (And.intro @elemsAt_nil (And.intro @elemsAt_eq (And.intro @cellsP_nil (And.intro @cellsP_cons (And.intro @verOf_mk (And.intro @turn_mk (And.intro @setE_nil (And.intro @setE_eq (And.intro @setRow_row (And.intro @newRow_mk (And.intro @newBox_mk (And.intro @takes_nil (And.intro @takes_cons (And.intro @take1_ref (And.intro @takeR_row (And.intro @takeR_sl (And.intro @take1_int (And.intro @take1_bool (And.intro @take1_str (And.intro @take1_nil (And.intro @take1_nilp (And.intro @take1_sl (And.intro @take1_fn (And.intro @act_mv (And.intro @act_pick (And.intro @fill_nil (And.intro @fill_cons (And.intro @act_bld (And.intro @act_ld1 (And.intro @ldV_ptr (And.intro @ldV_el (And.intro @expo_row (And.intro @expo_int (And.intro @expo_bool (And.intro @expo_str (And.intro @expo_nil (And.intro @expo_nilp (And.intro @expo_sl (And.intro @expo_fn (And.intro @expo_unk (And.intro @expos_nil (And.intro @expos_cons (And.intro @act_ldn (And.intro @ldN_ptr (And.intro @ldN_el (And.intro @act_fa (And.intro @act_ia (And.intro @iaV_sl (And.intro @iaV_ref (And.intro @act_ix (And.intro @act_subs (And.intro @act_bin (And.intro @act_beq_f (And.intro @act_beq_t (And.intro @act_eqs_f (And.intro @act_eqs_t (And.intro @act_un (And.intro @act_cvi (And.intro @act_cvs (And.intro @act_cvbs (And.intro @act_lens (And.intro @act_len (And.intro @elems_nil (And.intro @elems_sl (And.intro @elems_ref (And.intro @act_mnx (And.intro @act_ext (And.intro @act_nck (And.intro @act_isnp (And.intro @act_isns (And.intro @onMap_mref (And.intro @onMap_none (And.intro @act_lkp_f (And.intro @act_lkp_t (And.intro @ev_box (And.intro @ev_new (And.intro @ev_st (And.intro @stP_ptr (And.intro @ev_mk (And.intro @litp_nil (And.intro @litp_cons (And.intro @ev_lit (And.intro @grab_nil (And.intro @grab_sl (And.intro @grab_ref (And.intro @appG_eq (And.intro @appR_row (And.intro @app_nil (And.intro @app_ref (And.intro @ev_app (And.intro @ev_apps (And.intro @ev_cpy (And.intro @ev_cvsb (And.intro @frz1_ref (And.intro @frzR_row (And.intro @frzR_sl (And.intro @frz_nil (And.intro @frz_cons (And.intro @v1_ref (And.intro @v1_int (And.intro @v1_bool (And.intro @v1_str (And.intro @v1_nil (And.intro @v1_nilp (And.intro @v1_sl (And.intro @v1_fn (And.intro @ev_sub (And.intro @ev_call (And.intro @ev_calld (And.intro @ev_clo (And.intro @ev_clof (And.intro @fzs_nil (And.intro @fzs_cons (And.intro @fz_t (And.intro @fz_c (And.intro @fzV_ptr (And.intro @fzV_el (And.intro @ev_mkm (And.intro @ev_mset (And.intro @viewsL_nil (And.intro @viewsL_cons (And.intro @view_agg (And.intro @view_el (And.intro @view_int (And.intro @view_bool (And.intro @view_str (And.intro @view_nil (And.intro @view_nilp (And.intro @view_sl (And.intro @view_fn (And.intro @view_ref (And.intro @argsV_nil (And.intro @argsV_cons (And.intro @lent_ref (And.intro @lent_nil (And.intro @lent_box (And.intro @ro_nil (And.intro @ro_cons (And.intro @lo_nil (And.intro @lo_cons (And.intro @callA_eq (And.intro @callM_nil (And.intro @callN_int (And.intro @callN_bool (And.intro @callN_str (And.intro @callN_nil (And.intro @callN_nilp (And.intro @callN_sl (And.intro @callN_fn (And.intro @pickE_t (And.intro @pickE_f (And.intro @pickE_same (And.intro @callN_row (And.intro @callN_agg (And.intro @callN_tup (And.intro @callN_bx (And.intro @addO_mk (And.intro @callM_cons (And.intro @emp_nil (And.intro @emp_cons (And.intro @give_ref (And.intro @giveR_row (And.intro @give_ptr (And.intro @give_anil (And.intro @gives_nil (And.intro @gives_cons (And.intro @fill1_ref (And.intro @fill1_anil (And.intro @fill1_ptr (And.intro @fills_nil (And.intro @fills_cons (And.intro @fold_nil (And.intro @fold_row (And.intro @fold_bx (And.intro @clr_eq (And.intro @rowStep_mk (And.intro @bxStep_mk (And.intro @norm_mk (And.intro @keepT_nil (And.intro @keepT_cons (And.intro @keepO_nil (And.intro @keepO_cons (And.intro @ren_ref (And.intro @ren_ptr (And.intro @ren_mref (And.intro @rnR_some (And.intro @rnP_nil (And.intro @rnP_cons (And.intro @rnM_some (And.intro @ren_unk (And.intro @ren_und (And.intro @ren_int (And.intro @ren_bool (And.intro @ren_str (And.intro @ren_nil (And.intro @ren_nilp (And.intro @ren_sl (And.intro @ren_el (And.intro @ren_fn (And.intro @ren_agg (And.intro @ren_tup (And.intro @ren_fnp (And.intro @ren_ite (And.intro @kA_ref (And.intro @kA_ptr (And.intro @kA_mref (And.intro @kA_unk (And.intro @kA_und (And.intro @kA_int (And.intro @kA_bool (And.intro @kA_str (And.intro @kA_nil (And.intro @kA_nilp (And.intro @kA_sl (And.intro @kA_el (And.intro @kA_agg (And.intro @kA_tup (And.intro @kA_fn (And.intro @kA_fnp (And.intro @kA_bool_ite (And.intro @kA_und_ite (And.intro @fin_eq (And.intro @resVs_nil (And.intro @resVs_cons (And.intro @resV_tmp (And.intro @resV_tsl (And.intro @resV_cell (And.intro @resV_celln (And.intro @resV_csl (And.intro @resultsA_eq (And.intro @outs_nil (And.intro @outs_row (And.intro @outs_bx (And.intro @sT_nil (And.intro @sT_cons (And.intro @sT_row (And.intro @sT_bx (And.intro @sT_agg (And.intro @sT_el (And.intro @sO_nil (And.intro @sO_cons (And.intro @sO_row (And.intro @sO_bx (And.intro @sO_agg (And.intro @sO_el (And.intro @start_eq (And.intro @fp_eq (And.intro @ks_nil (@ks_cons)))))))))))))))))))))))))))))))))))))))))))))))))))))))))))))))))))))))))))))))))))))))))))))))))))))))))))))))))))))))))))))))))))))))))))))))))))))))))))))))))))))))))))))))))))))))))))))))))))))))))))))))))))))))))))))))))))))))))))))))))))))))))))))))))))))))))))))))))))))))))))))))))))))))))
def simPost := And.intro @onBool_bool (And.intro @onE_some (And.intro @onE_none (And.intro @onA_some (And.intro @onA_none (And.intro @onEff_some (And.intro @effT_bool (And.intro @effF_bool (And.intro @effT_und (And.intro @effF_und (And.intro @effT_ite (And.intro @effF_ite (And.intro @ite_and (And.intro @ite_or (And.intro @guard_and (And.intro @ite_nest (And.intro @ite_val (And.intro @ite_bool (And.intro @ite_int (And.intro @ob_some (And.intro @ob_none (And.intro @ob2_some (And.intro @ob2_none (And.intro @onI_int (And.intro @onS_str (And.intro @onAg_agg (And.intro @onTu_tup (And.intro @onRow_row (And.intro @obO_some (And.intro @lgn (And.intro @lqn (And.intro @lsn (And.intro @put_some (And.intro @put_none (And.intro @setObj_mk (And.intro @ver_mk (And.intro @verL_eq (And.intro @verL_nil (And.intro @top_nil (And.intro @top_cons (And.intro @verO_some (And.intro @recs_n (And.intro @recs_s (And.intro @addRec_z (And.intro @addRec_s (And.intro @addRec_c (And.intro @addBelow_eq (And.intro @wc_box (And.intro @wc_val (And.intro @parts_agg (And.intro @parts_int (And.intro @parts_bool (And.intro @parts_str (And.intro @parts_nil (And.intro @parts_nilp (And.intro @parts_sl (And.intro @parts_fn (And.intro @parts_ref (And.intro @faV_ptr (And.intro @faV_el (And.intro @iaR_row (And.intro @iaR_sl (And.intro @ia_none (And.intro @ia_int (And.intro @omap_none (And.intro @omap_some (And.intro @bin_add (And.intro @bin_sub (And.intro @bin_mul (And.intro @bin_quo (And.intro @bin_rem (And.intro @bin_and (And.intro @bin_or (And.intro @bin_xor (And.intro @bin_andNot (And.intro @bin_eql (And.intro @bin_neq (And.intro @bin_lss (And.intro @bin_leq (And.intro @bin_gtr (And.intro @bin_geq (And.intro @bin_shl (And.intro @bin_shr (And.intro @bins_add (And.intro @bins_eql (And.intro @bins_neq (And.intro @bins_lss (And.intro @bins_leq (And.intro @bins_gtr (And.intro @bins_geq (And.intro @onBool2_bool (And.intro @same_nil (And.intro @same_int (And.intro @same_bool (And.intro @same_str (And.intro @un_not (And.intro @un_neg (And.intro @elR_row (And.intro @elR_sl (And.intro @mnx_t (And.intro @mnx_f (And.intro @nckV_ptr (And.intro @nckV_el (And.intro @isP_nilp (And.intro @isP_ptr (And.intro @isP_el (And.intro @isS_nil (And.intro @isS_sl (And.intro @isS_ref (And.intro @keyOk_int (And.intro @keyOk_str (And.intro @chunks_z (And.intro @chunks_s (And.intro @grabR_sl (And.intro @grabR_row (And.intro @refs_ref (And.intro @refs_int (And.intro @refs_bool (And.intro @refs_str (And.intro @refs_nil (And.intro @refs_nilp (And.intro @refs_sl (And.intro @refs_el (And.intro @refs_fn (And.intro @refs_ptr (And.intro @refs_agg (And.intro @refsL_nil (And.intro @refsL_ref (And.intro @v1R_sl (And.intro @slOf_sl (And.intro @slOf_nil (And.intro @onFn_fn (And.intro @onFn_fnp (And.intro @capt_ptr (And.intro @capt_ref (And.intro @mset_mref (And.intro @norm_int (And.intro @norm_bool (And.intro @norm_str (And.intro @norm_nil (And.intro @norm_nilp (And.intro @norm_sl (And.intro @norm_fn (And.intro @lent_ro_int (And.intro @lent_ro_bool (And.intro @lent_ro_str (And.intro @lent_ro_nil (And.intro @lent_ro_nilp (And.intro @lent_ro_sl (And.intro @lent_ro_agg (And.intro @lent_ro_el (And.intro @lent_ro_fn (And.intro @lent_ro_ref (And.intro @lent_ptr (And.intro @lent_io_ref (And.intro @lent_io_nil (And.intro @lentR_row (And.intro @lentR_unk (And.intro @lentR_sl (And.intro @inst_row (And.intro @inst_bx1 (And.intro @inst_none (And.intro @bxOf_tup (And.intro @bxL_nil (And.intro @bxL_bx (And.intro @bxL_row (And.intro @bxL_agg (And.intro @bxOf_bx (And.intro @bxOf_row (And.intro @bxOf_agg (And.intro @rowsOf_tup (And.intro @rowsOf_row (And.intro @rowsOf_agg (And.intro @rows1_row (And.intro @rows1_agg (And.intro @nameR_tup (And.intro @nameR_row (And.intro @nameR_agg (And.intro @nameT_nil (And.intro @nameT_cons (And.intro @name1_row (And.intro @name1_agg (And.intro @nameC_nil (And.intro @nameC_cons (And.intro @nameB_tup (And.intro @nameB1_bx (And.intro @isRow_row (And.intro @free_row (And.intro @free_agg (And.intro @free_tup (And.intro @free1_row (And.intro @free1_agg (And.intro @free1_int (And.intro @free1_bool (And.intro @free1_str (And.intro @free1_nil (And.intro @free1_nilp (And.intro @free1_sl (And.intro @onIo_io (And.intro @pk_nil (And.intro @pk_ptr (And.intro @pk_ref (And.intro @pk_anil (And.intro @isRef_ref (And.intro @isRef_ptr (And.intro @isRef_nil (And.intro @fits_row (And.intro @fits_unk (And.intro @orE_some (And.intro @rowS_nil (And.intro @rowS_ref (And.intro @rowS_unk (And.intro @rowS_und (And.intro @rowS_sl (And.intro @bxS_box (And.intro @bxS_val (And.intro @bxS_dead (And.intro @bxS_map (And.intro @bxC_nil (And.intro @bxC_row (And.intro @bxC_sl (And.intro @bxC_unk (And.intro @normObj_mk (And.intro @normVs_mk (And.intro @ren1_agg (And.intro @ren0_ref (And.intro @ren0_ptr (And.intro @ren1_ref (And.intro @ren1_ptr (And.intro @k1_agg (And.intro @k0_ref (And.intro @k0_ptr (And.intro @k1_ref (And.intro @k1_ptr (And.intro @k1_el (And.intro @k0_el (And.intro @ren0_el (And.intro @ren1_el (And.intro @onFin_some (And.intro @notIo_io (And.intro @nr_tmp (And.intro @nr_tsl (And.intro @nr_cell (And.intro @nr_csl (And.intro @resP_bx (And.intro @bxGo_nil (And.intro @bxGo_ptr (And.intro @resGo_nil (And.intro @resGo_agg (And.intro @resGo_ref (And.intro @nf_none (And.intro @nf_nil (And.intro @nf_row (And.intro @nf_sl (And.intro @tupOf_1 (And.intro @tupOf_0 (And.intro @tupOf_2 (And.intro @isL_row (And.intro @isL_bx (And.intro @isL_agg (And.intro @isL_el (And.intro @pure_int (And.intro @pure_bool (And.intro @pure_str (And.intro @pure_nil (And.intro @pure_nilp (And.intro @pure_sl (And.intro @pure_fn (And.intro @pure_ref (And.intro @pure_ptr (And.intro @pure_row (And.intro @pure_mref (And.intro @flat_int (And.intro @flat_bool (And.intro @flat_str (And.intro @flat_nil (And.intro @flat_nilp (And.intro @flat_sl (And.intro @flat_row (And.intro @quiet_int (And.intro @quiet_bool (And.intro @quiet_str (And.intro @quiet_nil (And.intro @quiet_nilp (And.intro @quiet_fn (And.intro @quiet_row (And.intro @quiet_sl (And.intro @whole_row (And.intro @whole_int (And.intro @whole_bool (And.intro @whole_str (And.intro @whole_nil (And.intro @whole_nilp (And.intro @whole_sl (And.intro @whole_fn (And.intro @allWhole_nil (And.intro @allWhole_cons (And.intro @nw_mv (And.intro @cls_mv (And.intro @xs_mv (And.intro @nw_pick (And.intro @cls_pick (And.intro @xs_pick (And.intro @nw_box (And.intro @cls_box (And.intro @xs_box (And.intro @nw_new (And.intro @cls_new (And.intro @xs_new (And.intro @nw_bld (And.intro @cls_bld (And.intro @xs_bld (And.intro @nw_lit (And.intro @cls_lit (And.intro @xs_lit (And.intro @nw_ld (And.intro @cls_ld (And.intro @xs_ld (And.intro @nw_st (And.intro @cls_st (And.intro @xs_st (And.intro @nw_fa (And.intro @cls_fa (And.intro @xs_fa (And.intro @nw_ia (And.intro @cls_ia (And.intro @xs_ia (And.intro @nw_ix (And.intro @cls_ix (And.intro @xs_ix (And.intro @nw_subs (And.intro @cls_subs (And.intro @xs_subs (And.intro @nw_sub (And.intro @cls_sub (And.intro @xs_sub (And.intro @nw_mk (And.intro @cls_mk (And.intro @xs_mk (And.intro @nw_bin (And.intro @cls_bin (And.intro @xs_bin (And.intro @nw_beq (And.intro @cls_beq (And.intro @xs_beq (And.intro @nw_eqs (And.intro @cls_eqs (And.intro @xs_eqs (And.intro @nw_un (And.intro @cls_un (And.intro @xs_un (And.intro @nw_cvi (And.intro @cls_cvi (And.intro @xs_cvi (And.intro @nw_cvs (And.intro @cls_cvs (And.intro @xs_cvs (And.intro @nw_cvsb (And.intro @cls_cvsb (And.intro @xs_cvsb (And.intro @nw_cvbs (And.intro @cls_cvbs (And.intro @xs_cvbs (And.intro @nw_lens (And.intro @cls_lens (And.intro @xs_lens (And.intro @nw_len (And.intro @cls_len (And.intro @xs_len (And.intro @nw_app (And.intro @cls_app (And.intro @xs_app (And.intro @nw_apps (And.intro @cls_apps (And.intro @xs_apps (And.intro @nw_cpy (And.intro @cls_cpy (And.intro @xs_cpy (And.intro @nw_mnx (And.intro @cls_mnx (And.intro @xs_mnx (And.intro @nw_ext (And.intro @cls_ext (And.intro @xs_ext (And.intro @nw_call (And.intro @cls_call (And.intro @xs_call (And.intro @nw_nck (And.intro @cls_nck (And.intro @xs_nck (And.intro @nw_clo (And.intro @cls_clo (And.intro @xs_clo (And.intro @nw_calld (And.intro @cls_calld (And.intro @xs_calld (And.intro @nw_mkm (And.intro @cls_mkm (And.intro @xs_mkm (And.intro @nw_mset (And.intro @cls_mset (And.intro @xs_mset (And.intro @nw_lkp (And.intro @cls_lkp (And.intro @xs_lkp (And.intro @nw_isn (And.intro @cls_isn (And.intro @xs_isn (And.intro @nw_clof (And.intro @cls_clof (And.intro @xs_clof (And.intro @allPure_nil (And.intro @allPure_cons (And.intro @flats_nil (@flats_cons))))))))))))))))))))))))))))))))))))))))))))))))))))))))))))))))))))))))))))))))))))))))))))))))))))))))))))))))))))))))))))))))))))))))))))))))))))))))))))))))))))))))))))))))))))))))))))))))))))))))))))))))))))))))))))))))))))))))))))))))))))))))))))))))))))))))))))))))))))))))))))))))))))))))))))))))))))))))))))))))))))))))))))))))))))))))))))))))))))))))))))))))))))))))))))))))))))))))))))))))))))))))))))))
end Go.Nv
/- BY VALUE, with trees. Part 52: small facts that walks use. -/
namespace Go.Nv
theorem wrap_i64 {n : Int} (h1 : -9223372036854775808 ≤ n) (h2 : n ≤ 9223372036854775807) : IntKind.wrap .i64 n = n := by
  unfold IntKind.wrap
  simp [IntKind.bits, IntKind.signed]
  omega
theorem wrap_u8 {n : Int} (h1 : 0 ≤ n) (h2 : n ≤ 255) : IntKind.wrap .u8 n = n := by
  unfold IntKind.wrap
  simp [IntKind.bits, IntKind.signed]
  omega
theorem wrap_succ {i : Nat} {n : Nat} (h : i < n) (hn : n ≤ 140737488355328) : IntKind.wrap .i64 ((i : Int) + 1) = ((i + 1 : Nat) : Int) := by rw [wrap_i64 (by omega) (by omega)]; omega
theorem drop_cons {α : Type} {l : List α} {i : Nat} (d : α) (h : i < l.length) : l.drop i = l.getD i d :: l.drop (i + 1) := by
  rw [List.drop_eq_getElem_cons h]
  simp [List.getD_eq_getElem?_getD, List.getElem?_eq_getElem h]
theorem take_succ {α : Type} {l : List α} {i : Nat} (d : α) (h : i < l.length) : l.take (i + 1) = l.take i ++ [l.getD i d] := by
  rw [List.take_succ_eq_append_getElem h]
  simp [List.getD_eq_getElem?_getD, List.getElem?_eq_getElem h]
theorem byteCells_get (s : ByteArray) (i : Nat) (h : i < s.size) : (byteCells s).getD i [] = [.int .u8 ((s.data.toList.getD i 0).toNat : Int)] := by
  have : i < s.data.toList.length := by rw [Array.length_toList]; exact h
  unfold byteCells
  simp only [List.getD_eq_getElem?_getD, List.getElem?_map, List.getElem?_eq_getElem this, Option.map_some, Option.getD_some]
theorem allPure_byteCells (s : ByteArray) : allPure (byteCells s) = true := by
  simp only [allPure, byteCells, List.all_map, List.all_eq_true]; intro x _; rfl
theorem toNat0 : Int.toNat 0 = 0 := _root_.id rfl
theorem toNat1 : Int.toNat 1 = 1 := _root_.id rfl
theorem toNatC {n : Nat} : Int.toNat (n : Int) = n := Int.toNat_natCast n
theorem leR {a : Int} : (a ≤ a) = True := by simp
theorem zeroLe {n : Nat} : ((0 : Int) ≤ (n : Int)) = True := by simp
theorem nat0 : ((0 : Nat) : Int) = 0 := _root_.id rfl
theorem castLt {a b : Nat} (h : a < b) : ((a : Int) < (b : Int)) = True := by simp; omega
theorem castNlt {a b : Nat} (h : ¬ a < b) : ((a : Int) < (b : Int)) = False := by simp; omega
/-- An error if something holds. -/
def cond (is : Bool) (e : Int) : Int := if is = true then e else 0
/-- The first error. -/
def first : List Int → Int
  | [] => 0
  | e :: l => if (e != 0) = true then e else first l
def ints (l : List Int) : List (List AV) := l.map fun e => [.int .i64 e]
theorem ints_len (l : List Int) : (ints l).length = l.length := by simp [ints]
theorem ints_get (l : List Int) (i : Nat) (h : i < l.length) : (ints l).getD i [] = [.int .i64 (l.getD i 0)] := by
  simp [ints, List.getD_eq_getElem?_getD, List.getElem?_eq_getElem h]
theorem allPure_ints (l : List Int) : allPure (ints l) = true := by simp [allPure, ints, AV.pure]
theorem flats_ints (l : List Int) : flats (ints l) = true := by simp [flats, ints, AV.flat]
theorem ints_app (l m : List Int) : ints (l ++ m) = ints l ++ ints m := by simp [ints]
/-- Elements, by what they hold. -/
theorem enc_len {α : Type} (f : α → List AV) (l : List α) : (l.map f).length = l.length := by simp
theorem enc_get {α : Type} (f : α → List AV) (l : List α) (i : Nat) (d : α) (h : i < l.length) : (l.map f).getD i [] = f (l.getD i d) := by
  simp [List.getD_eq_getElem?_getD, List.getElem?_eq_getElem h]
theorem enc_get? {α : Type} (f : α → List AV) (l : List α) (i : Nat) (d : α) (h : i < l.length) : (l.map f)[i]? = some (f (l.getD i d)) := by
  simp [List.getD_eq_getElem?_getD, List.getElem?_eq_getElem h]
theorem allPure_map {α : Type} (f : α → List AV) (hf : ∀ x, (f x).all AV.pure = true) (l : List α) : allPure (l.map f) = true := by
  simp only [allPure, List.all_map, List.all_eq_true]; intro x _; exact hf x
theorem flats_map {α : Type} (f : α → List AV) (hf : ∀ x, (f x).all AV.flat = true) (l : List α) : flats (l.map f) = true := by
  simp only [flats, List.all_map, List.all_eq_true]; intro x _; exact hf x
theorem lens_map {α : Type} (f : α → List AV) (c : Nat) (hf : ∀ x, (f x).length = c) (l : List α) : ((l.map f).all fun y => y.length == c) = true := by
  simp only [List.all_map, List.all_eq_true]; intro x _; simp [hf x]
/-- A loop, told by what is put anew in each round. -/
theorem headC_upd {β σ : Type} {R : RT} {h : HD} {a : C} {k : Ex → Env → Option β} {e0 : Env} (U : σ → Env → Env) (r : σ → Option β) (μ : σ → Nat) (P : σ → Prop) (s0 : σ) (h0 : U s0 e0 = e0) (hp : P s0)
    (step : ∀ s, P s → (∀ s', P s' → μ s' < μ s → headC R h a (U s' e0) k = r s') → bindC R LL a (U s e0) (roundK R h a k) = r s) : headC R h a e0 k = r s0 := by
  have := headC_ind (k := k) (h := h) (a := a) (R := R) (fun s => U s e0) r μ P step s0 hp
  simpa only [h0] using this
/-- A loop over a range. -/
theorem headC_range {β : Type} {R : RT} {h : HD} {a : C} {k : Ex → Env → Option β} {e0 : Env} (n : Nat) (U : Nat → Env → Env) (r : Nat → Option β) (h0 : U 0 e0 = e0)
    (stop : bindC R LL a (U n e0) (roundK R h a k) = r n)
    (step : ∀ i, i < n → headC R h a (U (i + 1) e0) k = r (i + 1) → bindC R LL a (U i e0) (roundK R h a k) = r i) : headC R h a e0 k = r 0 := by
  refine headC_upd U r (fun i => n - i) (fun i => i ≤ n) 0 h0 (Nat.zero_le _) ?_
  intro i hi ih
  rcases Nat.lt_or_ge i n with hlt | hge
  · exact step i hlt (ih (i + 1) hlt (by omega))
  · have : i = n := Nat.le_antisymm hi hge
    subst this; exact stop
/-- The first one of which something holds. -/
def findI {α : Type} (p : α → Bool) : List α → Nat → Int
  | [], _ => -1
  | a :: l, i => if p a = true then (i : Int) else findI p l (i + 1)
end Go.Nv
/- BY VALUE, with trees: the library rules, bundled. Written by my own program (gen/bun). -/
set_option linter.defProp false
namespace Go.Nv
def simR := And.intro @Bool.not_not (And.intro @Bool.not_false (And.intro @Bool.not_true (And.intro @Bool.false_eq_true (And.intro @Bool.true_eq_false (And.intro @decide_true (And.intro @decide_false (And.intro @Bool.and_true (And.intro @Bool.true_and (And.intro @Bool.or_false (And.intro @Bool.false_or (And.intro @Bool.or_true (And.intro @Bool.true_or (And.intro @Bool.and_false (And.intro @Bool.false_and (And.intro @and_true (And.intro @true_and (And.intro @and_self (And.intro @false_and (And.intro @and_false (And.intro @List.flatMap_nil.{0,0} (And.intro @List.flatMap_cons.{0,0} (And.intro @List.append_nil.{0} (And.intro @List.nil_append.{0} (And.intro @List.cons_append.{0} (And.intro @List.map_cons.{0,0} (And.intro @List.map_nil.{0,0} (And.intro @List.all_cons.{0} (And.intro @List.all_nil.{0} (And.intro @List.any_cons.{0} (And.intro @List.any_nil.{0} (And.intro @List.filter_nil.{0} (And.intro @List.filter_cons.{0} (And.intro @List.length_cons.{0} (And.intro @List.length_nil.{0} (And.intro @List.isEmpty_cons.{0} (And.intro @List.isEmpty_nil.{0} (And.intro @Nat.zero_add (And.intro @Nat.add_zero (And.intro @List.drop_succ_cons.{0} (And.intro @List.drop_zero.{0} (And.intro @List.take_succ_cons.{0} (And.intro @List.take_zero.{0} (And.intro @Option.getD_some.{0} (And.intro @Option.getD_none.{0} (And.intro @Option.isNone_none.{0} (And.intro @Option.isNone_some.{0} (And.intro @Option.isSome_some.{0} (And.intro @Option.isSome_none.{0} (And.intro @Option.toList_some.{0} (And.intro @Option.toList_none.{0} (And.intro @List.contains_nil.{0} (And.intro @ne_eq.{1} (And.intro @not_true_eq_false (And.intro @not_false_eq_true (And.intro @toNat0 (And.intro @toNat1 (And.intro @toNatC (And.intro @leR (And.intro @zeroLe (@nat0))))))))))))))))))))))))))))))))))))))))))))))))))))))))))))
end Go.Nv
/- BY VALUE: chapter 27, plain data. -/
namespace Go.Nv
structure En where
  k : ByteArray
  r : Int
def en0 : En := ⟨bs [], 0⟩
def encE (x : En) : List AV := [.str x.k, .int .i64 x.r]
def eqE (a b : En) : Bool := a.k.toList == b.k.toList && a.r == b.r
def keyErr (k : ByteArray) : Bool := k.toList == (bs []).toList || decide ((k.size : Int) > 256)
def rrnErr (r : Int) : Bool := decide (r < 1) || decide (r > 60)
def entryErr (x : En) : Int := first [cond (keyErr x.k) 18, cond (rrnErr x.r) 3]
def fewE (l : List En) : Bool := ((l.take 125).all fun x => !decide ((x.k.size : Int) > 300)) && decide ((l.length : Int) < 125)
theorem entLens (l : List En) : ((l.map encE).all fun y => y.length == 2) = true := lens_map encE 2 (fun x => rfl) l
theorem entPure (l : List En) : allPure (l.map encE) = true := allPure_map encE (fun x => rfl) l
theorem entFlat (l : List En) : flats (l.map encE) = true := flats_map encE (fun x => rfl) l
def letters : List En := [⟨bs [65], 1⟩, ⟨bs [67], 2⟩]
def bitN (k : ByteArray) (n : Nat) : Nat := (k.data.toList.getD (n / 8) 0).toNat / 2 ^ (7 - n % 8) % 2
/-- The first bit from one on in which two keys differ. -/
def diffFrom (a b : ByteArray) : Nat → Nat → Nat
  | 0, n => n
  | f + 1, n => if bitN a n = bitN b n then diffFrom a b f (n + 1) else n
def diffN (a b : ByteArray) : Nat := diffFrom a b (8 * a.size) 0
def bitsDiffer (a b : ByteArray) : Prop := ∃ m, m < 8 * a.size ∧ bitN a m ≠ bitN b m
def isBit (b : Nat) (x : En) : Bool := (bitN x.k b : Int) == 1
structure Nd where
  b : Int
  lt : Int
  rt : Int
  k : ByteArray
  rs : List Int
  leaf : Bool
def nd0 : Nd := ⟨0, 0, 0, bs [], [], false⟩
/-- A node, as a row of one's own holds it. -/
def encR (x : Nd) : List AV := [.int .i64 x.b, .int .i64 x.lt, .int .i64 x.rt, .str x.k, if x.leaf = true then .row 3 1 (ints x.rs) else .nil]
/-- A node, as it is read. -/
def encV (x : Nd) : List AV := [.int .i64 x.b, .int .i64 x.lt, .int .i64 x.rt, .str x.k, if x.leaf = true then .sl (ints x.rs) else .nil]
/-- The tree of entries in order, behind other nodes. -/
def buildF : Nat → List Nd → List En → List Nd
  | 0, t, _ => t
  | f + 1, t, l =>
    if (l.getD 0 en0).k.toList == (l.getD (l.length - 1) en0).k.toList then t ++ [⟨-1, 0, 0, (l.getD 0 en0).k, l.map (·.r), true⟩]
    else
      let b := diffN (l.getD 0 en0).k (l.getD (l.length - 1) en0).k
      let c := (findI (isBit b) l 0).toNat
      let t1 := buildF f (t ++ [⟨b, t.length + 1, 0, bs [], [], false⟩]) (l.take c)
      buildF f (t1.set t.length { t1.getD t.length nd0 with rt := t1.length }) (l.drop c)
def leE (a b : En) : Prop := a.k.data.toList < b.k.data.toList ∨ (a.k = b.k ∧ a.r ≤ b.r)
def Srt (l : List En) : Prop := l.Pairwise leE
def Len (n : Nat) (l : List En) : Prop := ∀ x ∈ l, x.k.size = n
end Go.Nv
