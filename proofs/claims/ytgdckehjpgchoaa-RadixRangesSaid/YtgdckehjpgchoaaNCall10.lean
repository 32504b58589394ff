/- BY VALUE, with trees. Part 35: a call as a whole. -/
import Derived.Test.YtgdckehjpgchoaaNOps4
import Derived.MapKept
import Derived.Orders
import Derived.LoopN
import Derived.Scope
set_option linter.unusedVariables false
set_option linter.unusedSimpArgs false
namespace Go.Nv
variable [Dr]
open Go.RowKit
omit [Dr] in
theorem giveRows_id : ∀ {ls outs : List AV} {e e' : Env}, (∀ A ∈ ls, isRef A = false) → e.giveRows ls outs = some e' → e' = e ∧ outs.length = ls.length
  | [], [], e, e', _, h => by simp only [Env.giveRows, Option.some.injEq] at h; exact ⟨h.symm, rfl⟩
  | [], _ :: _, e, e', _, h => by simp [Env.giveRows] at h
  | _ :: _, [], e, e', _, h => by simp [Env.giveRows] at h
  | A :: ls, out :: outs, e, e', hA, h => by
    simp only [Env.giveRows] at h
    have h1 : e.giveRow A out = some e := by
      have := hA A List.mem_cons_self
      cases A <;> first | rfl | (cases this; done)
    rw [h1] at h
    obtain ⟨r1, r2⟩ := giveRows_id (fun B hB => hA B (List.mem_cons_of_mem _ hB)) h
    exact ⟨r1, by simp [r2]⟩
omit [Dr] in
theorem giveRows_inv : ∀ {ls outs : List AV} {e e' : Env}, (ls.filter isRef).length ≤ 1 → e.giveRows ls outs = some e' → outs.length = ls.length ∧ (((∀ A ∈ ls, isRef A = false) ∧ e' = e) ∨
    ∃ (i d g v : Nat) (q : Path) (j : Nat), ls[i]? = some (AV.ref d g v q j) ∧ (∀ (i' : Nat) (A : AV), ls[i']? = some A → isRef A = true → i' = i) ∧ ∃ out, outs[i]? = some out ∧ e.giveRow (AV.ref d g v q j) out = some e')
  | [], [], e, e', _, h => by simp only [Env.giveRows, Option.some.injEq] at h; exact ⟨rfl, .inl ⟨fun A hA => (by cases hA), h.symm⟩⟩
  | [], _ :: _, e, e', _, h => by simp [Env.giveRows] at h
  | _ :: _, [], e, e', _, h => by simp [Env.giveRows] at h
  | A :: ls, out :: outs, e, e', hf, h => by
    simp only [Env.giveRows] at h
    cases h1 : e.giveRow A out with
    | none => simp [h1] at h
    | some e1 =>
      simp only [h1] at h
      by_cases hA : isRef A = true
      · rw [List.filter_cons_of_pos hA] at hf
        have hls : ∀ B ∈ ls, isRef B = false := fun B hB => by
          cases hb : isRef B with
          | false => rfl
          | true =>
            have hm : B ∈ ls.filter isRef := List.mem_filter.2 ⟨hB, hb⟩
            have := List.length_pos_of_mem hm
            rw [List.length_cons] at hf
            omega
        obtain ⟨r1, r2⟩ := giveRows_id hls h
        refine ⟨by simp [r2], .inr ?_⟩
        cases A <;> simp [isRef] at hA
        rename_i d g v q j
        refine ⟨0, d, g, v, q, j, rfl, fun i' B hB hb => ?_, out, rfl, by rw [r1]; exact h1⟩
        cases i' with
        | zero => rfl
        | succ i' =>
          have := hls B (List.mem_of_getElem? (by simpa using hB))
          rw [hb] at this; cases this
      · have hA' : isRef A = false := by simpa using hA
        have h1' : e.giveRow A out = some e := by cases A <;> first | rfl | (cases hA'; done)
        rw [h1'] at h1; cases h1
        rw [List.filter_cons_of_neg hA] at hf
        obtain ⟨r0, r⟩ := giveRows_inv hf h
        refine ⟨by simp [r0], ?_⟩
        rcases r with ⟨r1, r2⟩ | ⟨i, d, g, v, q, j, r1, r2, out', r3, r4⟩
        · exact .inl ⟨fun B hB => (by rcases List.mem_cons.1 hB with rfl | hB; exact hA'; exact r1 B hB), r2⟩
        · refine .inr ⟨i + 1, d, g, v, q, j, by simpa using r1, fun i' B hB hb => ?_, out', by simpa using r3, r4⟩
          cases i' with
          | zero => simp at hB; subst hB; rw [hb] at hA'; cases hA'
          | succ i' => rw [r2 i' B (by simpa using hB) hb]
omit [Dr] in
theorem mem_ptrKeys_at {ls : List AV} {i d g v : Nat} {q : Path} {j : Nat} (h : ls[i]? = some (AV.ptr d g v q j)) : d ∈ ptrKeys ls := mem_ptrKeys.2 ⟨g, v, q, j, List.mem_of_getElem? h⟩
omit [Dr] in
theorem fills_inv : ∀ {ls outs : List AV} {e e' : Env}, distinct (ptrKeys ls) = true → e.fills ls outs = some e' → ∀ (i d g v : Nat) (q : Path) (j : Nat), ls[i]? = some (AV.ptr d g v q j) → ∃ l l0 o, outs[i]? = some (AV.bx l) ∧ e.objs[d]? = some o ∧ o.k = .box l0 ∧ l.length = l0.length
  | [], _, e, e', _, h, i, d, g, v, q, j, hi => by simp at hi
  | A :: ls, [], e, e', _, h, i, d, g, v, q, j, hi => by simp [Env.fills] at h
  | A :: ls, out :: outs, e, e', hd, h, i, d, g, v, q, j, hi => by
    simp only [Env.fills] at h
    cases h1 : e.fill1 A out with
    | none => simp [h1] at h
    | some e1 =>
      simp only [h1] at h
      by_cases hA : ∃ d1 g1 v1 q1 j1, A = .ptr d1 g1 v1 q1 j1
      · obtain ⟨d1, g1, v1, q1, j1, rfl⟩ := hA
        obtain ⟨hnd, hdd⟩ := distinct_cons (show distinct (d1 :: ptrKeys ls) = true from hd)
        simp only [Env.fill1] at h1
        cases out <;> simp only at h1 <;> try (cases h1; done)
        rename_i l
        cases ho : e.objs[d1]? with
        | none => simp [ho] at h1
        | some o =>
          simp only [ho] at h1
          cases hk : o.k <;> simp only [hk] at h1 <;> try (cases h1; done)
          rename_i l0
          by_cases hl : l.length = l0.length
          case neg => rw [if_neg hl] at h1; cases h1
          rw [if_pos hl] at h1
          cases h1
          cases i with
          | zero =>
            simp at hi
            obtain ⟨rfl, _⟩ := hi
            exact ⟨l, l0, o, rfl, ho, hk, hl⟩
          | succ i =>
            have hi' : ls[i]? = some (AV.ptr d g v q j) := by simpa using hi
            obtain ⟨l2, l3, o2, r1, r2, r3, r4⟩ := fills_inv hdd h i d g v q j hi'
            have hne : d1 ≠ d := fun hh => hnd (by rw [hh]; exact mem_ptrKeys_at hi')
            rw [Env.setObj_at (lt_obj ho), if_neg hne] at r2
            exact ⟨l2, l3, o2, by simpa using r1, r2, r3, r4⟩
      · have e1e : e1 = e := by
          have : e.fill1 A out = some e := by cases A <;> first | rfl | exact absurd ⟨_, _, _, _, _, rfl⟩ hA
          rw [this] at h1; cases h1; rfl
        subst e1e
        have hp : ptrKeys (A :: ls) = ptrKeys ls := by cases A <;> first | rfl | exact absurd ⟨_, _, _, _, _, rfl⟩ hA
        rw [hp] at hd
        cases i with
        | zero => simp at hi; exact absurd ⟨_, _, _, _, _, hi⟩ hA
        | succ i =>
          obtain ⟨l2, l3, o2, r1, r2⟩ := fills_inv hd h i d g v q j (by simpa using hi)
          exact ⟨l2, l3, o2, by simpa using r1, r2⟩
section
variable {P : Program} {w0 w w' : World} {L : Lend} {ok0 : Nat → Nat → Prop} {e e' : Env} {a : Act} {G G' : Gh} {As : List AV}
omit [Dr] in
theorem roRefs_rep : ∀ {ms : List Md} {As : List AV}, (∀ A ∈ As, ∃ v, RepT w G e v A) → ∀ B ∈ roRefs ms As, ∃ v, RepT0 w G e v B
  | [], As, _, B, hB => by cases As <;> simp [roRefs] at hB
  | _ :: _, [], _, B, hB => by simp [roRefs] at hB
  | m :: ms, A :: As, h, B, hB => by
    simp only [roRefs] at hB
    rcases List.mem_append.1 hB with hB | hB
    · by_cases hl : lends m A = true
      · rw [if_pos hl] at hB; cases hB
      · rw [if_neg hl] at hB
        obtain ⟨v, hv⟩ := h A List.mem_cons_self
        exact refsOf_rep hv B hB
    · exact roRefs_rep (fun A hA => h A (List.mem_cons_of_mem _ hA)) B hB
/-! ### A result that leads to no argument -/
omit [Dr] in
theorem RepR.flat {ok ok' : Nat → Nat → Prop} {v : Value} {A : AV} (h : RepR w ok v A) (hf : A.flat = true) : RepR w ok' v A := by
  cases h <;> simp [AV.flat] at hf
  · exact .int _ _
  · exact .bool _
  · exact .str _
  · exact .nil
  · exact .nilp
omit [Dr] in
theorem flat_pure {A : AV} (h : A.flat = true) : A.pure = true := by cases A <;> first | rfl | (cases h; done)
def Gh.withOk (G : Gh) (ok : Nat → Nat → Prop) : Gh := { G with ok := ok }
omit [Dr] in
theorem RepC.free {ok : Nat → Nat → Prop} {d : Nat} {q : Path} {j E c : Nat} {v : Value} {l : List (List AV)} (h : RepC w G d q j v (.row E c l)) (hf : l.all (fun x => x.all AV.flat) = true) : RepC w (G.withOk ok) d q j v (.row E c l) := by
  obtain ⟨h1, ⟨rfl, rfl⟩ | ⟨b, cap, cur, rfl, h2, h3, h4, h5, h6, h7, h8⟩⟩ := h.rowInv
  · exact .row0 h1.symm
  · refine .row b cap cur h1.symm h2 h3 h4 h5 h6 h7 (fun i k hi hk => ?_)
    have hx := h8 i k hi hk
    have hfl : ((l.getD i []).getD k .unk).flat = true := by
      have e1 : l.getD i [] = l[i] := by rw [List.getD_eq_getElem?_getD, List.getElem?_eq_getElem hi]; rfl
      have e2 := List.all_eq_true.1 hf _ (List.getElem_mem hi)
      have hk' : k < (l.getD i []).length := by rw [h7 i hi]; exact hk
      rw [← e1] at e2
      rw [List.getD_eq_getElem?_getD, List.getElem?_eq_getElem hk']
      exact List.all_eq_true.1 e2 _ (List.getElem_mem hk')
    exact .pure (flat_pure hfl) ((hx.pureInv (flat_pure hfl)).flat hfl)
omit [Dr] in
theorem RepS1.agg_free {ok : Nat → Nat → Prop} {K j : Nat} {v : Value} {l : List AV} (h : RepS1 w G K j v (.agg l)) (hf : l.all AV.flat = true) : RepS1 w (G.withOk ok) K j v (.agg l) := by
  obtain ⟨vs, h1, h2, h3⟩ := h
  refine ⟨vs, h1, h2, fun i hi => ?_⟩
  have hfl : (l.getD i .unk).flat = true := by
    rw [List.getD_eq_getElem?_getD, List.getElem?_eq_getElem hi]
    exact List.all_eq_true.1 hf _ (List.getElem_mem hi)
  exact .pure (flat_pure hfl) (((h3 i hi).pureInv (flat_pure hfl)).flat hfl)
omit [Dr] in
theorem RepS1.flatOk {ok : Nat → Nat → Prop} {K j : Nat} {v : Value} {A : AV} (h : RepS1 w G K j v A) (hf : A.flat = true) : RepS1 w (G.withOk ok) K j v A := by
  cases A <;> first | (cases hf; done) | exact RepR.flat (show RepR w G.ok v _ from h) hf
omit [Dr] in
theorem RepS.free {ok : Nat → Nat → Prop} {K : Nat} {v : Value} {A : AV} (h : RepS w G K v A) (hf : A.free = true) : RepS w (G.withOk ok) K v A := by
  cases A
  case row E c l => exact RepC.free (show RepC w G K [] 0 v (.row E c l) from h) hf
  case agg l => exact RepS.ofOne (by intro l hl; cases hl) (RepS1.agg_free (RepS.one (by intro l hl; cases hl) h) hf)
  case tup l =>
    obtain ⟨vs, h1, h2, h3⟩ := h
    refine ⟨vs, h1, h2, fun i hi => ?_⟩
    have h4 := h3 i hi
    have hfl := List.all_eq_true.1 (show (l.all fun A => match A with
      | .row _ _ l => l.all fun x => x.all AV.flat
      | .agg l => l.all AV.flat
      | A => A.flat) = true from hf) (l.getD i .unk) (by rw [List.getD_eq_getElem?_getD, List.getElem?_eq_getElem hi]; exact List.getElem_mem hi)
    revert h4 hfl
    generalize l.getD i .unk = B
    intro h4 hfl
    cases B
    case row E c l' => exact RepC.free (show RepC w G K [] _ _ (.row E c l') from h4) hfl
    case agg l' => exact RepS1.agg_free h4 hfl
    all_goals exact RepS1.flatOk h4 hfl
  all_goals exact RepS.ofOne (by intro l hl; cases hl) (RepS1.flatOk (RepS.one (by intro l hl; cases hl) h) hf)
omit [Dr] in
/-- The result, behind the call. -/
theorem Aft.repS1 {N : Nat} {G4 : Gh} {out : Nat → Prop} (h : Aft w' N As G G' G4 out) {n j : Nat} (hn : ¬ out n) (hk : boxKey (As.getD n .unk) = none) {v : Value} {A : AV} (hA : RepS1 w' G' n j v A) : RepS1 w' G4 (N + n) j v A := by
  cases A
  case row E c l => exact h.rep _ _ _ _ _ hn hA
  case bx l =>
    obtain ⟨h1, h2, vs, T, h3, h4, h5⟩ := hA
    exact ⟨by rw [h.blK]; exact h1, by rw [h.blK]; exact h.own _ _ h2 hk, vs, T, by rw [h.blK]; exact h3, h4, fun i hi => h.rep _ _ _ _ _ hn (h5 i hi)⟩
  case agg l =>
    obtain ⟨vs, h1, h2, h3⟩ := hA
    exact ⟨vs, h1, h2, fun i hi => h.rep _ _ _ _ _ hn (h3 i hi)⟩
  all_goals exact RepR.mono (fun b o hh => by rw [h.ok]; exact hh) (fun _ _ _ => SameAt.refl) (show RepR w' G'.ok v _ from hA)
omit [Dr] in
theorem Aft.repS {N : Nat} {G4 : Gh} {out : Nat → Prop} (h : Aft w' N As G G' G4 out) {n : Nat} (hn : ¬ out n) (hk : boxKey (As.getD n .unk) = none) {v : Value} {A : AV} (hA : RepS w' G' n v A) : RepS w' G4 (N + n) v A := by
  cases A
  case tup l =>
    obtain ⟨vs, h1, h2, h3⟩ := hA
    exact ⟨vs, h1, h2, fun i hi => h.repS1 hn hk (h3 i hi)⟩
  all_goals exact RepS.ofOne (by intro l hl; cases hl) (h.repS1 hn hk (RepS.one (by intro l hl; cases hl) hA))
/-- What a call's post says. -/
def Post (w : World) (Gc : Gh) (as : List AV) (vs : List Value) (r : AV) (w' : World) (v : Value) (G' : Gh) : Prop :=
  match r with
  | .io A outs => RepS w' G' as.length v A ∧ outs.length = (lentNs as 0).length ∧ (∀ i, i < outs.length → RepA w' G' ((lentNs as 0).getD i 0) (vs.getD ((lentNs as 0).getD i 0) undef) (outs.getD i .unk))
  | A => RepS w' G' as.length v A ∧ lentNs as 0 = []
theorem VSpec.use {f : Nat} {as : List AV} {r : AV} (h : VSpec P f as r) {vs : List Value} {Gc : Gh} (h1 : ∀ b o, Gc.ok b o → b < w.heap.size) (h2 : ∀ b p, Gc.own b = some p → b < w.heap.size ∧ ∀ o, ¬ Gc.ok b o) (h3 : vs.length = as.length)
    (h4 : ∀ j, j < as.length → RepA w Gc j (vs.getD j undef) (as.getD j .unk)) {Q : Ending → World → Prop} (hQ : ∀ v w' G', Left w w' Gc G' → Post w Gc as vs r w' v G' → Q (.returned v) w') : Calls P f vs.toArray w Q :=
  (h w vs Gc h1 h2 h3 h4).mono fun en w' hh => by
    obtain ⟨v, G', rfl, x1, x2, x3, x4, x5, x6⟩ := hh
    exact hQ v w' G' ⟨x1, x2, x3, x4, x5⟩ (by cases r <;> exact x6)
/-- Nothing is lent. -/
theorem call_none (h : Rel w0 L ok0 e a w G) {f : Nat} {ms : List Md} {Bs : List AV} {A : AV} {dst : Option Nat} (hR : VSpec P f Bs A) {vs : List Value} (hlen : vs.length = As.length) (hAs : ∀ j, j < As.length → RepT w G e (vs.getD j undef) (As.getD j .unk)) {e1 : Env} (he1 : e.freezes (roRefs ms As) = some e1)
    (hBs : e1.argsV ms As = some Bs) (hlent : lentOf ms As = []) (hio : ∀ A' outs, A ≠ .io A' outs) (he : (if A.free = true then e else e1).install dst A = some e') :
    Calls P f vs.toArray w fun en w' => ∃ v G', en = .returned v ∧ Rel w0 L ok0 e' (a.put dst v) w' G' := by
  obtain ⟨G1, h1, k1, ok1, own1, _⟩ := freezes_rep h (roRefs_rep (fun A hA => by
    obtain ⟨i, hi, rfl⟩ := List.getElem_of_mem hA
    have := hAs i hi
    rw [List.getD_eq_getElem?_getD (l := As), List.getElem?_eq_getElem hi] at this
    exact ⟨_, this⟩)) he1
  have hAs1 : ∀ j, j < As.length → RepT w G1 e1 (vs.getD j undef) (As.getD j .unk) := fun j hj => RepT.of0 k1.t (hAs j hj)
  obtain ⟨b1, b2, b3⟩ := argsV_spec hBs
  have hil : ∀ j, j < As.length → isLent (Bs.getD j .unk) = lends (ms.getD j .ro) (As.getD j .unk) := fun j hj => argV_lent (hAs1 j hj) (b3 j hj)
  have hns : lentNs Bs 0 = [] := by
    have := lentOf_ns b1 b2 hil
    rw [hlent] at this
    exact List.map_eq_nil_iff.1 this.symm
  have hnl : ∀ j, j < As.length → isLent (Bs.getD j .unk) = false := fun j hj => by
    cases hh : isLent (Bs.getD j .unk) with
    | false => rfl
    | true =>
      have : j ∈ lentNs Bs 0 := lentNs_mem.2 ⟨by omega, hh⟩
      rw [hns] at this; cases this
  have hbk : ∀ k d, k < As.length → boxKey (As.getD k .unk) = some d → False := fun k d hk hb => by
    obtain ⟨g, v, q, j, hA⟩ := boxKey_some hb
    have := hil k hk
    rw [hnl k hk, hA] at this
    cases hm : ms.getD k .ro <;> rw [hm] at this <;> cases this
  have hbxs : ∀ G : Gh, Boxes G e.objs.length As := fun G => ⟨fun k d h1 h2 => (hbk k d h1 h2).elim, fun k k' d h1 _ h2 _ => (hbk k d h1 h2).elim⟩
  have hNe : e1.objs.length = e.objs.length := k1.len
  have hbkn : boxKey (As.getD As.length .unk) = none := by rw [List.getD_eq_getElem?_getD, List.getElem?_eq_none (Nat.le_refl _)]; rfl
  obtain ⟨f1, f2, f3⟩ := callee_fit (vs := fun j => vs.getD j undef) (lent := fun _ => false) (N := e.objs.length) (As := As) h1.okb h1.own (hbxs G1)
  refine VSpec.use hR (Gc := G1.callee e.objs.length As (fun _ => false) fun j => vs.getD j undef) f1 f2 (by omega) (fun j hj => ?_) (fun v w' G' hl hp => ?_)
  · have hj' : j < As.length := by omega
    have hv := b3 j hj'
    unfold Env.argV at hv
    rw [if_neg (by rw [← hil j hj', hnl j hj']; simp)] at hv
    exact ArgK.rep (vs := fun j => vs.getD j undef) (hbxs G1) hj' (.inl ⟨(view_rep (hAs1 j hj') hv).1, (view_rep (hAs1 j hj') hv).2⟩)
  · have hp1 : RepS w' G' Bs.length v A := by
      cases A <;> first | exact hp.1 | exact absurd rfl (hio _ _)
    rw [b2] at hp1
    by_cases hf : A.free = true
    · rw [if_pos hf] at he
      have hl2 : Left w w' (G.callee e.objs.length As (fun _ => false) fun j => vs.getD j undef) (G'.withOk G.ok) := by
        have hown : ∀ b p, (G1.callee e.objs.length As (fun _ => false) fun j => vs.getD j undef).own b = some p → (G.callee e.objs.length As (fun _ => false) fun j => vs.getD j undef).own b = some p := fun b p hb => by
          rcases (hbxs G1).callee_inv hb with ⟨k, ⟨g1, d, g2, _⟩, _⟩ | ⟨d, q, x, g1, g2, rfl⟩
          · exact (hbk k d g1 g2).elim
          · have := (hbxs G).callee_row (lent := fun _ => false) (vs := fun j => vs.getD j undef) (b := b) (k := d - e.objs.length) (q := q) (x := x) (by rw [Nat.add_sub_cancel' g1]; exact own1 _ _ g2)
            exact this
        refine ⟨⟨hl.fr.os, hl.fr.tape, hl.fr.output, hl.fr.size, fun k hk hn => hl.fr.block k hk (fun hh => hn (by obtain ⟨p, hp⟩ := hh; exact ⟨p, hown _ _ hp⟩)), hl.fr.drawn⟩, fun b o hb => hl.okb b o (hl.okm b o (ok1 b o hb)), fun b o hb => hb, fun b o _ _ hb => hb, fun b p hb => ?_⟩
        obtain ⟨x1, x2, x3⟩ := hl.own b p hb
        refine ⟨x1, x2.imp id (fun hh => by obtain ⟨p, hp⟩ := hh; exact ⟨p, hown _ _ hp⟩), fun o hh => x3 o (hl.okm b o (ok1 b o hh))⟩
      obtain ⟨G4, r1, _, r3⟩ := back_none h (hbxs G) hl2 (fun k d h1 h2 => (hbk k d h1 h2).elim)
      obtain ⟨G5, r5⟩ := install_rep r1 (Nat.le_add_right _ As.length) (r3.repS (fun hh => hh) hbkn (hp1.free hf)) he
      exact ⟨v, G5, rfl, r5⟩
    · rw [if_neg hf] at he
      rw [← hNe] at hl hbxs
      obtain ⟨G4, r1, _, r3⟩ := back_none h1 (hbxs G1) hl (fun k d h1 h2 => (hbk k d h1 h2).elim)
      obtain ⟨G5, r5⟩ := install_rep r1 (Nat.le_add_right _ As.length) (r3.repS (fun hh => hh) hbkn hp1) he
      exact ⟨v, G5, rfl, r5⟩
end
end Go.Nv
/- BY VALUE, with trees. Part 36: a call that is lent something. -/
namespace Go.Nv
variable [Dr]
open Go.RowKit
omit [Dr] in
theorem holes_norow (n : Nat) : ∀ (q : Path) (j E c : Nat) (r : List (List AV)), cellAt (List.replicate n .unk) q j ≠ some (.row E c r)
  | [], j, E, c, r, h => by
    simp only [cellAt, elemsAt, List.getElem?_replicate] at h
    split at h <;> cases h
  | s :: q, j, E, c, r, h => by
    simp only [cellAt] at h
    cases hm : elemsAt (List.replicate n .unk) (s :: q) with
    | none => simp [hm] at h
    | some m =>
      obtain ⟨m0, E0, r0, h1, h2, _⟩ := elemsAt_cons hm
      exact holes_norow n q s.1 E0 s.2.1 r0 (by simp only [cellAt, h1]; exact h2)
omit [Dr] in
theorem install_rows {e e' : Env} {d : Nat} {A : AV} (h : e.install (some d) A = some e') (hb : bxOf A = none) : ∀ B ∈ rowsOf A, ∃ E c l, B = .row E c l := by
  intro B hB
  simp only [Env.install, hb] at h
  by_cases hr : rowsOf A = []
  · rw [hr] at hB; cases hB
  · rw [if_neg hr] at h
    by_cases hall : (rowsOf A).all AV.isRow = true
    · exact all_row hall hB
    · rw [if_neg hall] at h; cases h
omit [Dr] in
theorem giveRow_len {e e' : Env} {A out : AV} (h : e.giveRow A out = some e') : e'.objs.length = e.objs.length := by
  cases A
  case ref d g v q j =>
    simp only [Env.giveRow] at h
    cases hc : e.cellR d g v q j with
    | none => simp [hc] at h
    | some C =>
      cases C <;> simp only [hc] at h <;> try (cases h; done)
      rename_i E c r
      by_cases hf : fitsBack E c r out = true
      case neg => rw [if_neg hf] at h; cases h
      rw [if_pos hf] at h
      cases ho : e.objs[d]? with
      | none => simp [ho] at h
      | some o =>
        simp only [ho] at h
        cases hl : o.k.cells with
        | none => simp [hl] at h
        | some l =>
          simp only [hl, Option.some.injEq] at h
          subst h
          exact Env.setObj_len _ _ _
  all_goals (simp only [Env.giveRow, Option.some.injEq] at h; subst h; rfl)
section
variable {P : Program} {w0 w w' : World} {L : Lend} {ok0 : Nat → Nat → Prop} {e e' : Env} {a : Act} {G G' : Gh} {As : List AV}
theorem call_lent (h : Rel w0 L ok0 e a w G) {f : Nat} {ms : List Md} {Bs outs : List AV} {A : AV} {dst : Option Nat} (hR : VSpec P f Bs (.io A outs)) {vs : List Value} (hlen : vs.length = As.length) (hAs : ∀ j, j < As.length → RepT w G e (vs.getD j undef) (As.getD j .unk)) {e1 e2 e3 e4 : Env} (he1 : e.freezes (roRefs ms As) = some e1)
    (hBs : e1.argsV ms As = some Bs) (hdis : distinct (ptrKeys (lentOf ms As)) = true) (href : ((lentOf ms As).filter isRef).length ≤ 1) (he2 : e1.empties (ptrKeys (lentOf ms As)) = some e2) (hbA : bxOf A = none) (he3 : e2.giveRows (lentOf ms As) outs = some e3) (he4 : e3.fills (lentOf ms As) outs = some e4)
    (he : e4.install dst A = some e') :
    Calls P f vs.toArray w fun en w' => ∃ v G', en = .returned v ∧ Rel w0 L ok0 e' (a.put dst v) w' G' := by
  obtain ⟨G1, h1, k1, ok1, own1, _⟩ := freezes_rep h (roRefs_rep (fun A hA => by
    obtain ⟨i, hi, rfl⟩ := List.getElem_of_mem hA
    have := hAs i hi
    rw [List.getD_eq_getElem?_getD (l := As), List.getElem?_eq_getElem hi] at this
    exact ⟨_, this⟩)) he1
  have hAs1 : ∀ j, j < As.length → RepT w G1 e1 (vs.getD j undef) (As.getD j .unk) := fun j hj => RepT.of0 k1.t (hAs j hj)
  obtain ⟨b1, b2, b3⟩ := argsV_spec hBs
  have hil : ∀ j, j < As.length → isLent (Bs.getD j .unk) = lends (ms.getD j .ro) (As.getD j .unk) := fun j hj => argV_lent (hAs1 j hj) (b3 j hj)
  have hls := lentOf_ns b1 b2 hil
  generalize lentOf ms As = ls at hdis href he2 he3 he4 hls
  -- by numbers
  have lat : ∀ k, k < As.length → lends (ms.getD k .ro) (As.getD k .unk) = true → ∃ i, i < (lentNs Bs 0).length ∧ (lentNs Bs 0).getD i 0 = k ∧ ls[i]? = some (As.getD k .unk) := fun k hk hl => by
    have hm : k ∈ lentNs Bs 0 := lentNs_mem.2 ⟨by omega, by rw [hil k hk]; exact hl⟩
    obtain ⟨i, hi, hik⟩ := List.getElem_of_mem hm
    exact ⟨i, hi, by rw [List.getD_eq_getElem?_getD, List.getElem?_eq_getElem hi, hik]; rfl, by rw [hls, List.getElem?_map, List.getElem?_eq_getElem hi, hik]; rfl⟩
  have latI : ∀ (i : Nat) (X : AV), ls[i]? = some X → i < (lentNs Bs 0).length ∧ (lentNs Bs 0).getD i 0 < As.length ∧ X = As.getD ((lentNs Bs 0).getD i 0) .unk ∧ lends (ms.getD ((lentNs Bs 0).getD i 0) .ro) (As.getD ((lentNs Bs 0).getD i 0) .unk) = true := fun i X hX => by
    rw [hls, List.getElem?_map] at hX
    obtain ⟨k, hk, rfl⟩ := Option.map_eq_some_iff.1 hX
    have hm := lentNs_mem.1 (List.mem_of_getElem? hk)
    have hg : (lentNs Bs 0).getD i 0 = k := by rw [List.getD_eq_getElem?_getD, hk]; rfl
    rw [hg]
    exact ⟨lt_of_get hk, by omega, rfl, by rw [← hil k (by omega)]; exact hm.2⟩
  have hmem : ∀ k d, k < As.length → boxKey (As.getD k .unk) = some d → d ∈ ptrKeys ls := fun k d hk hb => by
    obtain ⟨g, v, q, j, hA⟩ := boxKey_some hb
    obtain ⟨i, _, _, hi⟩ := lat k hk (by rw [hA]; cases ms.getD k .ro <;> rfl)
    rw [hA] at hi
    exact mem_ptrKeys_at hi
  have hmem' : ∀ d, d ∈ ptrKeys ls → ∃ k, k < As.length ∧ boxKey (As.getD k .unk) = some d := fun d hd => by
    obtain ⟨g, v, q, j, hA⟩ := mem_ptrKeys.1 hd
    obtain ⟨i, hi, hX⟩ := List.getElem_of_mem hA
    obtain ⟨_, x2, x3, _⟩ := latI i _ (by rw [List.getElem?_eq_getElem hi, hX])
    exact ⟨_, x2, by rw [← x3]; rfl⟩
  have hinj : ∀ k k' d, k < As.length → k' < As.length → boxKey (As.getD k .unk) = some d → boxKey (As.getD k' .unk) = some d → k = k' := fun k k' d hk hk' hb hb' => by
    obtain ⟨g, v, q, j, hA⟩ := boxKey_some hb
    obtain ⟨g', v', q', j', hA'⟩ := boxKey_some hb'
    obtain ⟨i, _, hi1, hi⟩ := lat k hk (by rw [hA]; cases ms.getD k .ro <;> rfl)
    obtain ⟨i', _, hi1', hi'⟩ := lat k' hk' (by rw [hA']; cases ms.getD k' .ro <;> rfl)
    rw [hA] at hi
    rw [hA'] at hi'
    rw [← hi1, ← hi1', ptrKeys_inj hdis hi hi']
  obtain ⟨κ, hκ0⟩ : ∃ κ : Nat → Nat, ∀ d, d ∈ ptrKeys ls → κ d < As.length ∧ boxKey (As.getD (κ d) .unk) = some d := by
    classical
    refine ⟨fun d => if hh : ∃ k, k < As.length ∧ boxKey (As.getD k .unk) = some d then hh.choose else 0, fun d hd => ?_⟩
    have hh := hmem' d hd
    simp only [dif_pos hh]
    exact hh.choose_spec
  have hκ : ∀ d d', d ∈ ptrKeys ls → d' ∈ ptrKeys ls → κ d = κ d' → d = d' := fun d d' hd hd' hh => by
    have x1 := (hκ0 d hd).2
    have x2 := (hκ0 d' hd').2
    rw [hh, x2] at x1
    cases x1; rfl
  have hκk : ∀ k d, k < As.length → boxKey (As.getD k .unk) = some d → κ d = k := fun k d hk hb => hinj _ _ d (hκ0 d (hmem k d hk hb)).1 hk (hκ0 d (hmem k d hk hb)).2 hb
  obtain ⟨G2, h2, em⟩ := empties_rep h1 hdis hκ he2
  have hN2 : e2.objs.length = e1.objs.length := em.keeps.len
  have hbkn : boxKey (As.getD As.length .unk) = none := by rw [List.getD_eq_getElem?_getD, List.getElem?_eq_none (Nat.le_refl _)]; rfl
  have H2 : Boxes G2 e2.objs.length As := by
    refine ⟨fun k d hk hb => ?_, hinj⟩
    obtain ⟨o, l, x1, x2, x3, x4, _⟩ := em.kind d (hmem k d hk hb)
    exact ⟨lt_obj x3, by rw [em.bl]; exact em.own _ _ x4⟩
  have hAs2 : ∀ j, j < As.length → RepT w G2 e2 (vs.getD j undef) (As.getD j .unk) := fun j hj => RepT.of0 em.keeps.t (hAs1 j hj)
  have hptr : ∀ k d, k < As.length → boxKey (As.getD k .unk) = some d → vs.getD k undef = .pointer (some ⟨G2.bl d, 0, none⟩) ∧ ∃ l, Bs.getD k .unk = .bx l ∧ ∃ o, e1.objs[d]? = some o ∧ o.k = .box l := fun k d hk hb => by
    obtain ⟨g, v, q, j, hA⟩ := boxKey_some hb
    have hv := b3 k hk
    have hr := hAs1 k hk
    unfold Env.argV at hv
    rw [hA] at hv hr
    rw [if_pos (by cases ms.getD k .ro <;> rfl)] at hv
    simp only [Env.lent] at hv
    split at hv
    · rename_i hq hj
      cases hc : e1.cellsP d g v [] with
      | none => simp [hc] at hv
      | some l =>
        simp only [hc, Option.some.injEq] at hv
        obtain ⟨_, b, oo, r2, r3⟩ := hr
        obtain ⟨c1, c2⟩ := r3 l hc
        obtain ⟨o, o1, _, o3⟩ := Env.cellsP_some.1 hc
        refine ⟨by rw [r2, c1, c2, em.bl]; rfl, l, hv.symm, o, o1, ?_⟩
        rcases o3 with ⟨_, o4⟩ | ⟨s, q', o4, _⟩
        · exact o4
        · cases o4
    · cases hv
  let lent : Nat → Bool := fun k => match As.getD k .unk with
    | .ptr .. => true
    | .ref .. => lends (ms.getD k .ro) (As.getD k .unk)
    | _ => false
  have hArg : ∀ Gr : Gh, Gr.ok = G2.ok → Gr.bl = G2.bl → (∀ k d, k < As.length → boxKey (As.getD k .unk) = some d → ∀ i v B, RepC w G2 (e2.objs.length + k) [] i v B → RepC w Gr (e2.objs.length + k) [] i v B) →
      (∀ k d g v q j, k < As.length → As.getD k .unk = .ref d g v q j → lends (ms.getD k .ro) (As.getD k .unk) = true → ∀ E c l, e1.cellR d g v q j = some (.row E c l) → RepC w Gr (e2.objs.length + k) [] 0 (vs.getD k undef) (.row E c l)) →
      ∀ k, k < As.length → ArgK w Gr e2.objs.length As lent k (vs.getD k undef) (Bs.getD k .unk) := by
    intro Gr gok gbl gbox grow k hk
    have hv := b3 k hk
    by_cases hl : lends (ms.getD k .ro) (As.getD k .unk) = true
    · by_cases hb : ∃ d, boxKey (As.getD k .unk) = some d
      · obtain ⟨d, hb⟩ := hb
        obtain ⟨p1, l, p2, o, p3, p4⟩ := hptr k d hk hb
        obtain ⟨o', l', x1, x2, x3, x4, cs, T, x5, x6, x7⟩ := em.kind d (hmem k d hk hb)
        rw [p3] at x1; cases x1
        rw [p4] at x2; cases x2
        obtain ⟨g, v, q, j, hA⟩ := boxKey_some hb
        refine .inr (.inr (.inr ⟨d, l, hb, by simp only [lent, hA], p2, by rw [gbl]; exact p1, cs, T, by rw [gbl, em.bl]; exact x5, x6, fun i hi => gbox k d hk hb i _ _ ?_⟩))
        have := x7 i hi
        rw [hκk k d hk hb, ← hN2] at this
        exact this
      · unfold Env.argV at hv
        rw [if_pos hl] at hv
        cases hA : As.getD k .unk with
        | ref d g v q j =>
          rw [hA] at hv
          simp only [Env.lent] at hv
          cases hc : e1.cellR d g v q j with
          | none => simp [hc] at hv
          | some C =>
            cases C <;> simp only [hc] at hv <;> try (cases hv; done)
            rename_i E c l
            simp only [Option.some.injEq] at hv
            rw [← hv]
            exact .inr (.inr (.inl ⟨E, c, l, rfl, by simp only [lent, hA]; rw [← hA]; exact hl, grow k d g v q j hk hA hl E c l hc⟩))
        | nil =>
          rw [hA] at hv hl
          have hr := hAs1 k hk
          rw [hA] at hr
          cases hm : ms.getD k .ro <;> rw [hm] at hv hl
          · cases hl
          · simp only [Env.lent, Option.some.injEq] at hv
            rw [← hv]
            exact .inr (.inl ⟨_, _, rfl, inv_nil hr, by simp only [lent, hA]⟩)
        | ptr d g v q j => exact absurd ⟨d, by rw [hA]; rfl⟩ hb
        | _ => rw [hA] at hl; cases hm : ms.getD k .ro <;> rw [hm] at hl <;> cases hl
    · unfold Env.argV at hv
      rw [if_neg hl] at hv
      obtain ⟨y1, y2⟩ := view_rep (hAs1 k hk) hv
      exact .inl ⟨by rw [gok, em.ok]; exact y1, y2⟩
  obtain ⟨holen, hcase⟩ := giveRows_inv href he3
  have hN3 : e3.objs.length = e2.objs.length := by
    rcases hcase with ⟨_, rfl⟩ | ⟨i0, d0, g0, v0, q0, j0, c1, c2, out0, c3, c4⟩
    · rfl
    · exact giveRow_len c4
  -- the variables that are given back
  have hfl := fills_inv hdis he4
  have hbxOut : ∀ (w' : World) (G' : Gh), (∀ i, i < outs.length → RepA w' G' ((lentNs Bs 0).getD i 0) (vs.getD ((lentNs Bs 0).getD i 0) undef) (outs.getD i .unk)) → (∀ d, d ∈ ptrKeys ls → e3.objs[d]? = e2.objs[d]?) →
      ∀ k d, k < As.length → boxKey (As.getD k .unk) = some d → G'.own (G2.bl d) = some (k, [], none) ∧ ∃ n, e2.kind d = .box (List.replicate n .unk) ∧ ∃ cs T, w'.heap[G2.bl d]? = some (.cells cs T (0, 0)) ∧ cs.size = n := by
    intro w' G' ho h32 k d hk hb
    obtain ⟨p1, l, p2, o, p3, p4⟩ := hptr k d hk hb
    obtain ⟨g, v, q, j, hA⟩ := boxKey_some hb
    obtain ⟨i, i1, i2, hi⟩ := lat k hk (by rw [hA]; cases ms.getD k .ro <;> rfl)
    rw [hA] at hi
    obtain ⟨l2, l0, o2, f1, f2, f3, f4⟩ := hfl i d g v q j hi
    obtain ⟨o', l', x1, x2, x3, _⟩ := em.kind d (hmem k d hk hb)
    rw [h32 d (hmem k d hk hb), x3] at f2
    cases f2
    simp only [emptied, OK.box.injEq] at f3
    have hio := ho i (lt_of_get f1)
    rw [i2, getD_of f1] at hio
    obtain ⟨y1, y2, cs, T, y3, y4, _⟩ := hio
    rw [p1] at y1
    have e1 : G2.bl d = G'.bl k := by simp only [Value.pointer.injEq, Option.some.injEq, Addr.mk.injEq] at y1; exact y1.1
    rw [e1]
    refine ⟨y2, l'.length, by rw [Env.kind_of x3]; rfl, cs, T, y3, ?_⟩
    rw [y4, f4, ← f3]; simp
  -- behind the function
  have after : ∀ (w' : World) (G' G4 : Gh) (out : Nat → Prop) (v : Value), Rel w0 L ok0 e3 a w' G4 → Aft w' e2.objs.length As G2 G' G4 out → (∀ k d, k < As.length → boxKey (As.getD k .unk) = some d → ¬ out k) → ¬ out As.length →
      (∀ i, i < outs.length → RepA w' G' ((lentNs Bs 0).getD i 0) (vs.getD ((lentNs Bs 0).getD i 0) undef) (outs.getD i .unk)) → RepS w' G' As.length v A → ∃ v' G5, Ending.returned v = .returned v' ∧ Rel w0 L ok0 e' (a.put dst v') w' G5 := by
    intro w' G' G4 out v r1 r2 hob hon ho hS
    obtain ⟨G5, s1, s2, s3, s4, s5⟩ := fills_rep (κ := κ) r1 hdis hκ he4 (fun i d g v q j l hi1 hi2 => by
      obtain ⟨x1, x2, x3, _⟩ := latI i _ hi1
      have hb : boxKey (As.getD ((lentNs Bs 0).getD i 0) .unk) = some d := by rw [← x3]; rfl
      have hio := ho i (lt_of_get hi2)
      rw [getD_of hi2] at hio
      obtain ⟨y1, y2, cs, T, y3, y4, y5⟩ := hio
      obtain ⟨p1, _⟩ := hptr _ d x2 hb
      rw [p1] at y1
      have e1 : G'.bl ((lentNs Bs 0).getD i 0) = G2.bl d := by simp only [Value.pointer.injEq, Option.some.injEq, Addr.mk.injEq] at y1; exact y1.1.symm
      refine ⟨cs, T, by rw [r2.bl d (H2.own _ d x2 hb).1, ← e1]; exact y3, fun x hx => ?_⟩
      rw [hN3, hκk _ d x2 hb]
      exact r2.rep _ _ _ _ _ (hob _ d x2 hb) (y5 x hx))
    have hS4 := r2.repS hon hbkn hS
    cases dst with
    | none =>
      simp only [Env.install, Option.some.injEq] at he
      subst he
      exact ⟨v, G5, rfl, s1⟩
    | some d =>
      have hS5 : RepS w' G5 (e2.objs.length + As.length) v A := by
        refine hS4.map (fun b o hh => by rw [s3]; exact hh) (fun _ _ _ => SameAt.refl) (fun i v' E c l hi hh => ?_) (install_rows he hbA) hbA
        refine s5 _ _ _ _ (by rw [hN3]; exact Nat.le_add_right _ _) (fun d2 hd2 hh2 => ?_) hh
        have := (hκ0 d2 hd2).1
        rw [hN3] at hh2; omega
      have hlen4 : e4.objs.length = e3.objs.length := s2.len
      obtain ⟨G6, r6⟩ := install_rep s1 (K := e2.objs.length + As.length) (by rw [hlen4, hN3]; exact Nat.le_add_right _ _) hS5 he
      exact ⟨v, G6, rfl, r6⟩
  rcases hcase with ⟨c1, rfl⟩ | ⟨i0, d0, g0, v0, q0, j0, c1, c2, out0, c3, c4⟩
  · -- no row is lent
    obtain ⟨f1, f2, f3⟩ := callee_fit (vs := fun j => vs.getD j undef) (lent := lent) (N := e3.objs.length) (As := As) h2.okb h2.own H2
    have hA2 := hArg G2 rfl rfl (fun _ _ _ _ _ _ _ hh => hh) (fun k d g v q j hk hA hl E c l _ => by
      obtain ⟨i, _, _, hi⟩ := lat k hk hl
      rw [hA] at hi
      have := c1 _ (List.mem_of_getElem? hi)
      cases this)
    refine VSpec.use hR (Gc := G2.callee e3.objs.length As lent fun j => vs.getD j undef) f1 f2 (by omega) (fun j hj => ArgK.rep (vs := fun j => vs.getD j undef) H2 (by omega) (hA2 j (by omega))) (fun v w' G' hl hp => ?_)
    obtain ⟨p1, p2, p3⟩ := hp
    rw [b2] at p1
    obtain ⟨G4, r1, _, r3⟩ := back_none h2 H2 hl (hbxOut w' G' p3 (fun _ _ => rfl))
    exact after w' G' G4 _ v r1 r3 (fun _ _ _ _ hh => hh) (fun hh => hh) p3 p1
  · -- one row is lent
    obtain ⟨z1, z2, z3, z4⟩ := latI i0 _ c1
    generalize hk0 : (lentNs Bs 0).getD i0 0 = k0 at z2 z3 z4
    simp only [Env.giveRow] at c4
    cases hc : e2.cellR d0 g0 v0 q0 j0 with
    | none => simp [hc] at c4
    | some C =>
      cases C <;> simp only [hc] at c4 <;> try (cases c4; done)
      rename_i E c r
      by_cases hok : fitsBack E c r out0 = true
      case neg => rw [if_neg hok] at c4; cases c4
      rw [if_pos hok] at c4
      obtain ⟨o, l, o1, o2, o3, o4, o5⟩ := Env.cellR_some.1 hc
      simp only [o1, o4, Option.some.injEq] at c4
      have hd0 : d0 < e2.objs.length := lt_obj o1
      have hnd : d0 ∉ ptrKeys ls := fun hh => by
        obtain ⟨o', l', _, _, x3, _⟩ := em.kind d0 hh
        rw [o1] at x3
        cases x3
        simp only [emptied, OK.cells, Option.some.injEq] at o4
        rw [← o4] at o5
        exact holes_norow _ _ _ _ _ _ o5
      have hbk0 : boxKey (As.getD k0 .unk) = none := by rw [← z3]; rfl
      simp only [cellAt] at o5
      cases hm : elemsAt l q0 with
      | none => simp [hm] at o5
      | some m =>
      simp only [hm] at o5
      have hA0 := hAs2 k0 z2
      rw [← z3] at hA0
      have hv0 : vs.getD k0 undef = G2.h d0 q0 j0 := hA0.2.1 E c r hc
      have hrow2 : RepC w G2 d0 q0 j0 (vs.getD k0 undef) (.row E c r) := ref_cell h2 hA0 hc
      have hne : d0 ≠ e2.objs.length + k0 := by omega
      let Gr := G2.reloc d0 q0 j0 (e2.objs.length + k0) [] 0
      have Hr : Boxes Gr e2.objs.length As := ⟨fun k d1 x1 x2 => ⟨(H2.own k d1 x1 x2).1, Gh.reloc_own_box (H2.own k d1 x1 x2).2⟩, H2.inj⟩
      have hrown : ∀ b p, Gr.own b = some p → b < w.heap.size ∧ (w0.heap.size ≤ b ∨ L b) ∧ ∀ o, ¬ Gr.ok b o := fun b p hp => by
        obtain ⟨p', hp'⟩ := Gh.reloc_own_inv hp
        exact h2.own b p' hp'
      obtain ⟨f1, f2, f3⟩ := callee_fit (w := w) (G := Gr) (L := L) (w0 := w0) (vs := fun j => vs.getD j undef) (lent := lent) (N := e2.objs.length) (As := As) h2.okb hrown Hr
      have hA2 := hArg Gr rfl rfl (fun k d hk hb i v B hh => RepC.reloc_other hh (fun q2 j2 _ hh2 => by omega) (fun q2 j2 _ hh2 => by
          have : k = k0 := by omega
          subst this
          rw [hbk0] at hb; cases hb)) (fun k d g v q j hk hA hl E' c' l' hc' => by
        obtain ⟨i, _, i2, hi⟩ := lat k hk hl
        have : i = i0 := c2 i _ hi (by rw [hA]; rfl)
        subst this
        have hkk : k = k0 := by rw [← i2]; exact hk0
        subst hkk
        rw [hA] at z3
        cases z3
        -- the same cell, before the variables were emptied
        have hcc : e1.cellR d0 g0 v0 q0 j0 = some (.row E c r) := by
          rw [Env.cellR_some]
          exact ⟨o, l, by rw [← em.other d0 hnd]; exact o1, o2, o3, o4, by simp only [cellAt, hm]; exact o5⟩
        rw [hcc] at hc'
        cases hc'
        exact RepC.reloc hne hrow2)
      refine VSpec.use hR (Gc := Gr.callee e2.objs.length As lent fun j => vs.getD j undef) f1 f2 (by omega) (fun j hj => ArgK.rep (vs := fun j => vs.getD j undef) Hr (by omega) (hA2 j (by omega))) (fun v w' G' hl hp => ?_)
      obtain ⟨p1, p2, p3⟩ := hp
      rw [b2] at p1
      have hout : (∃ r', out0 = .row E c r' ∧ r'.length = r.length ∧ RepC w' G' k0 [] 0 (vs.getD k0 undef) (.row E c r')) ∨ out0 = .unk := by
        have hi0 := p3 i0 (lt_of_get c3)
        rw [hk0, getD_of c3] at hi0
        cases out0 <;> simp only [fitsBack] at hok <;> try (cases hok; done)
        · exact .inr rfl
        · rename_i E' c' r'
          simp only [Bool.and_eq_true, beq_iff_eq] at hok
          obtain ⟨rfl, rfl, hr'⟩ := hok
          exact .inl ⟨r', rfl, hr', hi0⟩
      have h32 : ∀ d, d ∈ ptrKeys ls → e3.objs[d]? = e2.objs[d]? := fun d hd => by
        rw [← c4, Env.setObj_at hd0, if_neg (fun hh => hnd (by rw [hh]; exact hd))]
      obtain ⟨G4, r1, _, r3⟩ := back_row (vs := fun j => vs.getD j undef) h2 H2 o1 o4 hm o5 hv0 hl (hbxOut w' G' p3 h32) hout
      rw [c4] at r1
      exact after w' G' G4 _ v r1 r3 (fun k d hk hb hh => by subst hh; rw [hbk0] at hb; cases hb) (by omega) p3 p1
/-- A call. -/
theorem callA_rep (h : Rel w0 L ok0 e a w G) {R : Nat → List AV → Option AV} (hR : VSound P R) {f : Nat} {ms : List Md} {dst : Option Nat} {vs : List Value} (hlen : vs.length = As.length) (hAs : ∀ j, j < As.length → RepT w G e (vs.getD j undef) (As.getD j .unk))
    (he : callA R e dst f ms As = some e') : callable P f = true ∧ Calls P f vs.toArray w fun en w' => ∃ v G', en = .returned v ∧ Rel w0 L ok0 e' (a.put dst v) w' G' := by
  unfold callA at he
  cases he1 : e.freezes (roRefs ms As) with
  | none => simp [he1] at he
  | some e1 =>
    simp only [he1] at he
    cases hBs : e1.argsV ms As with
    | none => simp [hBs] at he
    | some Bs =>
      simp only [hBs] at he
      split at he
      · rename_i hl
        cases hr : R f Bs with
        | none => simp [hr] at he
        | some A =>
          obtain ⟨s1, s2⟩ := hR f Bs A hr
          refine ⟨s2, call_none h s1 hlen hAs he1 hBs hl (fun A' outs hA => ?_) ?_⟩
          · subst hA; simp [hr] at he
          · rw [hr] at he
            cases A <;> first | (simp only at he; cases he; done) | exact he
      · rename_i ls hls
        split at he
        case isFalse => cases he
        rename_i hd
        cases he2 : e1.empties (ptrKeys (lentOf ms As)) with
        | none => simp [he2] at he
        | some e2 =>
          simp only [he2] at he
          cases hr : R f Bs with
          | none => simp [hr] at he
          | some r =>
            obtain ⟨s1, s2⟩ := hR f Bs r hr
            cases r <;> simp only [hr] at he <;> try (cases he; done)
            rename_i A outs
            by_cases hb : (bxOf A).isNone = true
            case neg => rw [if_neg hb] at he; cases he
            rw [if_pos hb] at he
            cases he3 : e2.giveRows (lentOf ms As) outs with
            | none => simp [he3] at he
            | some e3 =>
              simp only [he3] at he
              cases he4 : e3.fills (lentOf ms As) outs with
              | none => simp [he4] at he
              | some e4 =>
                simp only [he4] at he
                exact ⟨s2, call_lent h s1 hlen hAs he1 hBs hd.1 hd.2 he2 (by simpa using hb) he3 he4 he⟩
end
end Go.Nv
/- BY VALUE, with trees. Part 37: maps. -/
namespace Go.Nv
variable [Dr]
open Go.RowKit
omit [Dr] in
theorem bytes_beq (a b : ByteArray) : (a == b) = (a.toList == b.toList) := by
  rw [ByteArray.toList_eq, ByteArray.toList_eq]
  have h0 : (a == b) = (a.data == b.data) := rfl
  rw [h0]
  by_cases h : a.data = b.data
  · rw [h]; simp
  · have h1 : (a.data == b.data) = false := by simpa using h
    have h2 : (a.data.toList == b.data.toList) = false := by
      cases hb : (a.data.toList == b.data.toList)
      · rfl
      · exact absurd (Array.ext' (eq_of_beq hb)) h
    rw [h1, h2]
/-- A key, at the machine. -/
def KeyRep (kd : Option IntKind) (D : TypeDesc) (k : AV) (kv : Value) : Prop := (∃ s, kd = none ∧ D = .string ∧ k = .str s ∧ kv = .string s) ∨ ∃ κ n, kd = some κ ∧ D = .int κ ∧ k = .int κ n ∧ kv = .int κ n
omit [Dr] in
theorem KeyRep.isKey {kd : Option IntKind} {D : TypeDesc} {k : AV} {kv : Value} (h : KeyRep kd D k kv) : MapKept.IsKey D kv := by
  rcases h with ⟨s, _, rfl, _, rfl⟩ | ⟨κ, n, _, rfl, _, rfl⟩
  · trivial
  · rfl
omit [Dr] in
theorem KeyRep.flat {kd : Option IntKind} {D : TypeDesc} {k : AV} {kv : Value} (h : KeyRep kd D k kv) : k.flat = true := by
  rcases h with ⟨s, _, _, rfl, _⟩ | ⟨κ, n, _, _, rfl, _⟩ <;> rfl
omit [Dr] in
theorem keyRep_of {P : Program} {w : World} {G : Gh} {e : Env} {kt : TypeId} {kd : Option IntKind} (hk : keyKind P kt = some kd) {k : AV} {kv : Value} (h : RepT w G e kv k) (ho : keyOk kd k = true) : ∃ D, P.underlying kt = some D ∧ KeyRep kd D k kv := by
  unfold keyKind at hk
  split at hk
  · cases hk
    rename_i hu
    cases k <;> simp [keyOk] at ho
    exact ⟨_, hu, .inl ⟨_, rfl, rfl, rfl, inv_str h⟩⟩
  · cases hk
    rename_i κ hu
    cases k <;> simp [keyOk] at ho
    subst ho
    exact ⟨_, hu, .inr ⟨_, _, rfl, rfl, rfl, inv_int h⟩⟩
  · cases hk
omit [Dr] in
theorem key_step {w : World} {ok : Nat → Nat → Prop} {kd : Option IntKind} {D : TypeDesc} {k : AV} {kv : Value} (h : KeyRep kd D k kv) {A : AV} {v : Value} (hA : RepR w ok v A) {b : Bool} (hq : keyEq k A = some b) : Instr.sameNow D kv v = some b ∧ (b = true → v = kv) := by
  rcases h with ⟨s, _, rfl, rfl, rfl⟩ | ⟨κ, n, _, rfl, rfl, rfl⟩
  · cases A <;> simp only [keyEq] at hq <;> try (cases hq; done)
    cases hA
    simp only [Option.some.injEq] at hq
    subst hq
    refine ⟨by simp only [Instr.sameNow, bytes_beq], fun hh => ?_⟩
    rw [← bytes_beq] at hh
    rw [(MapKept.bytes_beq _ _).1 hh]
  · cases A <;> simp only [keyEq] at hq <;> try (cases hq; done)
    cases hA
    rename_i κ' m
    by_cases hk : κ = κ'
    case neg => rw [if_neg hk] at hq; cases hq
    rw [if_pos hk] at hq
    subst hk
    simp only [Option.some.injEq] at hq
    subst hq
    refine ⟨by simp [Instr.sameNow], fun hh => ?_⟩
    rw [eq_of_beq hh]
omit [Dr] in
theorem findNow_get {w : World} {ok : Nat → Nat → Prop} {kd : Option IntKind} {D : TypeDesc} {k : AV} {kv : Value} (h : KeyRep kd D k kv) : ∀ (es : List MapEntry) (l : List (AV × AV)) (i : Nat) (r : Option AV), es.length = l.length →
    (∀ j, j < l.length → RepR w ok (es.getD j default).key (l.getD j (.unk, .unk)).1) → mapGet k l = some r →
    (r = none ∧ Instr.findNow D kv es i = some none) ∨ ∃ j A, r = some A ∧ j < l.length ∧ Instr.findNow D kv es i = some (some (i + j, (es.getD j default).val)) ∧ (l.getD j (.unk, .unk)).2 = A ∧ (es.getD j default).key = kv ∧ ∀ v, mapPut k v l = l.set j ((l.getD j (.unk, .unk)).1, v)
  | [], [], i, r, _, _, hg => by
    simp only [mapGet, Option.some.injEq] at hg
    subst hg
    exact .inl ⟨rfl, rfl⟩
  | [], _ :: _, i, r, hl, _, _ => by simp at hl
  | _ :: _, [], i, r, hl, _, _ => by simp at hl
  | y :: es, p :: l, i, r, hl, hr, hg => by
    have h0 : RepR w ok y.key p.1 := hr 0 (by simp)
    simp only [mapGet] at hg
    cases hq : keyEq k p.1 with
    | none => simp [hq] at hg
    | some b =>
      obtain ⟨s1, s2⟩ := key_step h h0 hq
      cases b with
      | true =>
        simp only [hq, Option.some.injEq] at hg
        subst hg
        exact .inr ⟨0, p.2, rfl, by simp, by simp [Instr.findNow, s1], rfl, s2 rfl, fun v => by simp [mapPut, hq]⟩
      | false =>
        simp only [hq] at hg
        rcases findNow_get h es l (i + 1) r (by simpa using hl) (fun j hj => by have := hr (j + 1) (by simpa using hj); simpa using this) hg with ⟨r1, r2⟩ | ⟨j, A, r1, r2, r3, r4, r5, r6⟩
        · exact .inl ⟨r1, by simp [Instr.findNow, s1, r2]⟩
        · refine .inr ⟨j + 1, A, r1, by simpa using r2, ?_, by simpa using r4, by simpa using r5, fun v => by simp [mapPut, hq, r6 v]⟩
          simp only [Instr.findNow, s1, r3, List.getD_cons_succ]
          rw [show i + 1 + j = i + (j + 1) by omega]
section
variable {P : Program} {w0 w' : World} {L : Lend} {ok0 : Nat → Nat → Prop} {e : Env} {a : Act} {w : World} {G G' : Gh} {o : Oper} {A : AV}
variable {R : Nat → List AV → Option AV} {K : Act → World → Prop} {Q : Exit → Act → World → Prop} {e' : Env}
theorem mref_obj (h : Rel w0 L ok0 e a w G) {v : Value} {d g : Nat} {ob : AObj} {l : List (AV × AV)} (hA : RepT w G e v (.mref d g)) (ho : e.obj d g = some ob) (hk : ob.k = .map l) :
    d < e.objs.length ∧ e.objs[d]? = some ob ∧ ob.gen = g ∧ v = .map (some (G.bl d)) ∧ G.own (G.bl d) = some (d, [], none) ∧ ∃ es clock, w.heap[G.bl d]? = some (.map es clock) ∧ es.toList.length = l.length ∧
      ∀ i, i < l.length → RepR w G.ok ((es.toList.getD i default).key) ((l.getD i (.unk, .unk)).1) ∧ (l.getD i (.unk, .unk)).1.flat = true ∧ RepR w G.ok ((es.toList.getD i default).val) ((l.getD i (.unk, .unk)).2) ∧ (l.getD i (.unk, .unk)).2.pure = true := by
  obtain ⟨r1, _, r, rfl, r3⟩ := hA
  obtain ⟨o1, o2⟩ := Env.obj_some.1 ho
  rw [r3 _ ho]
  have hO := h.objs d r1
  rw [Env.kind_of o1, hk] at hO
  obtain ⟨x1, es, cl, x2, x3, x4⟩ := hO
  refine ⟨r1, o1, o2, rfl, x1, es, cl, x2, by simpa using x3, fun i hi => ?_⟩
  have e1 : es.toList.getD i default = es.getD i default := by rw [List.getD_eq_getElem?_getD, Array.getElem?_toList, Array.getD_eq_getD_getElem?]
  rw [e1]; exact x4 i hi
/-- A look-up. -/
theorem sim_lkp (h : Rel w0 L ok0 e a w G) {x k : Operand} {x' k' : X} {t kt et : TypeId} {inf : TypeInfo} {z : Value} {Z : AV} {ok : Bool} {kd : Option IntKind} (hx : compX x = some x') (hk : compX k = some k') (ho : o.op = .lookup t x k ok) (ht : P.underlying t = some (.map kt et))
    (hkd : keyKind P kt = some kd) (hi : P.info? et = some inf) (hz : inf.zero = some z) (hZ : avOf z = some Z)
    (he : act e (.lkp Z ok kd x' k') = some A) : SimV P o a w G e A := by
  simp only [act] at he
  have h1 := compX_rep hx h
  have h2 := compX_rep hk h
  by_cases hko : keyOk kd (e.get k') = true
  case neg => rw [if_neg hko] at he; cases he
  rw [if_pos hko] at he
  obtain ⟨D, hD, hkr⟩ := keyRep_of hkd h2 hko
  have hc := fun b => MapKept.run_checkKey (P := P) (w := w) (k := a.eval k) hD hkr.isKey b 9999
  have hzr : (zeroValue et).run P w = .ok z w := by simp [zeroValue, typeInfo, hi, hz]
  have hzrep : RepR w G.ok z Z := (avOf_rep hZ w G.ok).1
  have out : ∀ (v : Value) (B : AV) (b : Bool), RepR w G.ok v B → B.pure = true → (Instr.lookup t (a.eval x) (a.eval k) ok).run P w = .ok (if ok = true then .tuple #[v, .bool b] else v) w → (if ok = true then AV.tup [B, .bool b] else B) = A → SimV P o a w G e A := by
    intro v B b hB hBp hrun hA
    refine ⟨if ok = true then .tuple #[v, .bool b] else v, by simp only [execOp, ho, Sem.run_bind, hrun, Result.andThen_ok, Sem.run_pure], ?_⟩
    subst hA
    cases ok with
    | true =>
      refine ⟨#[v, .bool b], rfl, rfl, fun j hj => ?_⟩
      match j, hj with
      | 0, _ =>
        show RepT1 w G e v B
        cases B <;> first | (cases hBp; done) | exact RepR.toT0 (e := e) hB
      | 1, _ => exact RepR.toT0 (e := e) (.bool _)
    | false => exact hB.toT
  cases hgx : e.get x' <;> simp only [hgx] at he h1 <;> try (cases he; done)
  · rename_i d g
    cases hob : e.obj d g with
    | none => simp [hob] at he
    | some ob =>
      simp only [hob] at he
      cases hkk : ob.k <;> simp only [hkk] at he <;> try (cases he; done)
      rename_i l
      obtain ⟨_, _, _, hv, _, es, cl, m1, m2, m3⟩ := mref_obj h h1 hob hkk
      cases hg : mapGet (e.get k') l with
      | none => simp [hg] at he
      | some r =>
        rcases findNow_get (ok := G.ok) hkr es.toList l 0 r m2 (fun j hj => (m3 j hj).1) hg with ⟨rfl, r2⟩ | ⟨j, B, rfl, r2, r3, r4, r5, r6⟩
        · simp only [hg, Option.some.injEq] at he
          have hf := MapKept.run_findKey (P := P) (w := w) hD r2
          exact out z Z false hzrep (avOf_rep hZ w G.ok).2 (by rw [hv]; simp [Instr.lookup, run_underlying ht, MapKept.run_getObj_map m1, hc, hf, hzr, Result.andThen]) he
        · simp only [hg, Option.some.injEq] at he
          have hf := MapKept.run_findKey (P := P) (w := w) hD r3
          refine out (es.toList.getD j default).val B true (by rw [← r4]; exact (m3 j r2).2.2.1) (by rw [← r4]; exact (m3 j r2).2.2.2) (by rw [hv]; simp [Instr.lookup, run_underlying ht, MapKept.run_getObj_map m1, hc, hf, Result.andThen]) he
  · rename_i v
    cases v <;> try (cases he; done)
    rename_i mo
    cases mo <;> try (cases he; done)
    simp only [Option.some.injEq] at he
    have hv : a.eval x = .map none := by
      have h1' : RepR w G.ok (a.eval x) (.raw (.map none)) := h1
      generalize a.eval x = vx at h1'
      cases h1'; rfl
    have hf : (Instr.findKey kt (a.eval k) ([] : List MapEntry)).run P w = .ok none w := MapKept.run_findKey (P := P) (w := w) hD rfl
    exact out z Z false hzrep (avOf_rep hZ w G.ok).2 (by rw [hv]; simp [Instr.lookup, run_underlying ht, hc, hf, hzr, Result.andThen]) he
/-- A new map. -/
theorem sim_mkm (h : Rel w0 L ok0 e a w G) {t : TypeId} (ho : o.op = .makeMap t none) (he : evalO R e o.dst .mkm = some e') (hK : ∀ a' w' G', Rel w0 L ok0 e' a' w' G' → K a' w') : o.wp P a w K Q := by
  simp only [evalO] at he
  cases hdst : o.dst with
  | none => simp [hdst] at he
  | some d =>
    simp only [hdst] at he
    by_cases hd : d < e.objs.length
    case neg => rw [show e.make d 0 (.map []) = none by unfold Env.make; rw [if_neg hd]] at he; cases he
    rw [make_some hd] at he
    simp only [Option.some.injEq] at he
    subst he
    let b := w.heap.size
    let w2 := w.alloc (.map #[] 0)
    let G2 := G.boxAt d b
    have hrun : (execOp a.eval o).run P w = .ok (.value (.map (some b))) w2 := by
      simp [execOp, ho, Instr.makeMap, Result.andThen, w2, b]
    obtain ⟨hnew, hold⟩ := MapKept.heap_alloc w (.map #[] 0)
    have hsz : w2.heap.size = w.heap.size + 1 := by simp [w2]
    have hb : G.own b = none := by
      cases hb : G.own b with
      | none => rfl
      | some p => have h1 : b < w.heap.size := (h.own b p hb).1; omega
    have hne : ∀ b1 p, G.own b1 = some p → G2.own b1 = some p := fun b1 p hp => by
      have : b1 ≠ b := fun hh => by rw [hh, hb] at hp; cases hp
      simp only [G2, Gh.boxAt, if_neg this]; exact hp
    have hsame : ∀ b o, G.ok b o → SameAt w w2 b o := fun b1 o1 hb1 => SameAt.of_block (hold b1 (h.okb b1 o1 hb1))
    have hstay : StaysO w w2 G G2 e.objs.length d := by
      refine ⟨fun _ _ hh => hh, hsame, fun d1 q1 j1 hd1 hn => ⟨rfl, fun b1 hb1 => ⟨hne b1 _ hb1, hold b1 (h.own b1 _ hb1).1⟩⟩, fun d1 b1 hd1 hn hb1 => ⟨hne b1 _ hb1, hold b1 (h.own b1 _ hb1).1⟩, fun d1 _ hn => ?_, fun d1 j1 _ hn => rfl⟩
      simp only [G2, Gh.boxAt, if_neg hn]
    have hbl : G2.bl d = b := by simp only [G2, Gh.boxAt, if_true]
    obtain ⟨r1, r2⟩ := h.make hd (n := 0) (k' := .map []) hstay ⟨h.fr.os, h.fr.tape, h.fr.output, by have := h.fr.size; omega, fun k hk hL => by rw [hold k (by have := h.fr.size; omega)]; exact h.fr.block k hk hL, h.fr.drawn⟩
      (fun b1 o hh => by have := h.okb b1 o hh; omega) h.ok0
      (fun b1 p hp => by
        by_cases hb1 : b1 = b
        · subst hb1
          exact ⟨by omega, .inl h.fr.size, fun o hh => by have hlt : b < w.heap.size := h.okb b o hh; omega⟩
        · simp only [G2, Gh.boxAt, if_neg hb1] at hp
          obtain ⟨x1, x2, x3⟩ := h.own b1 p hp
          exact ⟨by omega, x2, x3⟩)
      ⟨by rw [hbl]; simp only [G2, Gh.boxAt, if_true], #[], 0, by rw [hbl]; exact hnew, rfl, fun i hi => absurd hi (by simp)⟩ (fun l0 hl0 => by cases hl0)
    have hat := Env.setObj_at (e := e) (o := ⟨e.gen d + 1, List.replicate 0 [], .map []⟩) hd d
    rw [if_pos rfl] at hat
    refine wp_value hrun ?_
    rw [hdst]
    refine hK _ _ _ (r1.put (some d) ?_)
    exact ⟨lt_obj hat, by rw [Env.gen_of hat]; exact Nat.le_refl _, b, rfl, fun o' ho' => hbl.symm⟩
/-- A map is turned. -/
theorem Rel.mapSet (h : Rel w0 L ok0 e a w G) {d : Nat} {ob : AObj} {l l' : List (AV × AV)} (hob : e.objs[d]? = some ob) (hk : ob.k = .map l) {es' : Array MapEntry} {cl' : Nat} {es : Array MapEntry} {cl : Nat} (hb : w.heap[G.bl d]? = some (.map es cl)) (hs : es'.size = l'.length)
    (hr : ∀ i, i < l'.length → RepR w G.ok ((es'.getD i default).key) ((l'.getD i (.unk, .unk)).1) ∧ (l'.getD i (.unk, .unk)).1.flat = true ∧ RepR w G.ok ((es'.getD i default).val) ((l'.getD i (.unk, .unk)).2) ∧ (l'.getD i (.unk, .unk)).2.pure = true) :
    Rel w0 L ok0 (e.setObj d ⟨ob.gen, ob.vs, .map l'⟩) a { w with heap := w.heap.setIfInBounds (G.bl d) (.map es' cl') } G := by
  have hd := lt_obj hob
  have hO := h.objs d hd
  rw [Env.kind_of hob, hk] at hO
  obtain ⟨o1, _⟩ := hO
  obtain ⟨g1, g2⟩ := MapKept.heap_set (o' := .map es' cl') hb
  generalize hw2 : ({ w with heap := w.heap.setIfInBounds (G.bl d) (.map es' cl') } : World) = w2
  have hheap : w2.heap = w.heap.setIfInBounds (G.bl d) (.map es' cl') := by rw [← hw2]
  have hosz : w2.heap.size = w.heap.size := by rw [hheap]; simp
  rw [← hheap] at g1 g2
  have hat := Env.setObj_at (e := e) (o := ⟨ob.gen, ob.vs, .map l'⟩) hd
  have hsame : ∀ b o, G.ok b o → SameAt w w2 b o := fun b1 o1' hb1 => SameAt.of_block (g2 b1 (fun hh => (h.own _ _ o1).2.2 o1' (by rw [← hh]; exact hb1)))
  have hstay : StaysO w w2 G G e.objs.length d := by
    refine ⟨fun _ _ hh => hh, hsame, fun d1 q1 j1 hd1 hn => ⟨rfl, fun b1 hb1 => ⟨hb1, g2 b1 (fun hh => ?_)⟩⟩, fun d1 b1 hd1 hn hb1 => ⟨hb1, g2 b1 (fun hh => ?_)⟩, fun _ _ _ => rfl, fun _ _ _ _ => rfl⟩
    · rw [hh, o1] at hb1; cases hb1
    · rw [hh, o1] at hb1; cases hb1; exact hn rfl
  have ht : ∀ v A, RepT0 w G e v A → RepT0 w2 G (e.setObj d ⟨ob.gen, ob.vs, .map l'⟩) v A := by
    intro v A hh
    have hgen : ∀ d1, (e.setObj d ⟨ob.gen, ob.vs, .map l'⟩).gen d1 = e.gen d1 := fun d1 => by
      unfold Env.gen
      rw [hat d1]
      by_cases hdd : d = d1
      · subst hdd; rw [if_pos rfl, hob]
      · rw [if_neg hdd]
    have hlv : ∀ {d1 g1 n1 : Nat} {q1 : Path} {j1 : Nat}, Lives e d1 g1 n1 q1 j1 → Lives (e.setObj d ⟨ob.gen, ob.vs, .map l'⟩) d1 g1 n1 q1 j1 := fun {d1 g1 n1 q1 j1} hl => by
      refine ⟨by rw [Env.setObj_len]; exact hl.1, by rw [hgen]; exact hl.2.1, fun o' ho' => ?_⟩
      obtain ⟨x1, x2⟩ := Env.obj_some.1 ho'
      rw [hat d1] at x1
      by_cases hdd : d = d1
      · subst hdd
        rw [if_pos rfl] at x1
        cases x1
        exact hl.2.2 ob (Env.obj_some.2 ⟨hob, x2⟩)
      · rw [if_neg hdd] at x1
        exact hl.2.2 o' (Env.obj_some.2 ⟨x1, x2⟩)
    have hcr : ∀ {d1 g1 n1 : Nat} {q1 : Path} {j1 : Nat} {B : AV}, (e.setObj d ⟨ob.gen, ob.vs, .map l'⟩).cellR d1 g1 n1 q1 j1 = some B → e.cellR d1 g1 n1 q1 j1 = some B := fun {d1 g1 n1 q1 j1 B} hB => by
      obtain ⟨o', l0, x1, x2, x3, x4, x5⟩ := Env.cellR_some.1 hB
      rw [hat d1] at x1
      by_cases hdd : d = d1
      · subst hdd
        rw [if_pos rfl] at x1
        cases x1; cases x4
      · rw [if_neg hdd] at x1
        exact Env.cellR_some.2 ⟨o', l0, x1, x2, x3, x4, x5⟩
    have hcp : ∀ {d1 g1 n1 : Nat} {q1 : Path} {m : List AV}, (e.setObj d ⟨ob.gen, ob.vs, .map l'⟩).cellsP d1 g1 n1 q1 = some m → e.cellsP d1 g1 n1 q1 = some m := fun {d1 g1 n1 q1 m} hB => by
      obtain ⟨o', x1, x2, x3⟩ := Env.cellsP_some.1 hB
      rw [hat d1] at x1
      by_cases hdd : d = d1
      · subst hdd
        rw [if_pos rfl] at x1
        cases x1
        rcases x3 with ⟨_, x4⟩ | ⟨s, q', _, _, l0, x4, _⟩
        · cases x4
        · cases x4
      · rw [if_neg hdd] at x1
        exact Env.cellsP_some.2 ⟨o', x1, x2, x3⟩
    cases A
    case ref d1 g1 n1 q1 j1 => exact ⟨hlv hh.1, fun E c l0 hc => hh.2.1 E c l0 (hcr hc), fun l0 hc => (hh.2.2.1 l0 (hcr hc)).mono (fun _ _ h => h) hsame, hh.2.2.2⟩
    case ptr d1 g1 n1 q1 j1 =>
      obtain ⟨r1, b, oo, r2, r3⟩ := hh
      refine ⟨?_, b, oo, r2, fun l0 hc => r3 l0 (hcp hc)⟩
      cases q1 with
      | nil => exact ⟨by rw [Env.setObj_len]; exact r1.1, by rw [hgen]; exact r1.2⟩
      | cons s q' => exact hlv r1
    case mref d1 g1 =>
      obtain ⟨r1, r2, r, r3, r4⟩ := hh
      refine ⟨by rw [Env.setObj_len]; exact r1, by rw [hgen]; exact r2, r, r3, fun o' ho' => ?_⟩
      obtain ⟨x1, x2⟩ := Env.obj_some.1 ho'
      rw [hat d1] at x1
      by_cases hdd : d = d1
      · subst hdd
        rw [if_pos rfl] at x1
        cases x1
        exact r4 ob (Env.obj_some.2 ⟨hob, x2⟩)
      · rw [if_neg hdd] at x1
        exact r4 o' (Env.obj_some.2 ⟨x1, x2⟩)
    all_goals exact RepR.mono (fun _ _ h => h) hsame hh
  refine ⟨⟨by rw [← hw2]; exact h.fr.os, by rw [← hw2]; exact h.fr.tape, by rw [← hw2]; exact h.fr.output, by rw [hosz]; exact h.fr.size, fun k hk hL => ?_, by rw [← hw2]; exact h.fr.drawn⟩, h.size, fun t htt => RepT.of0 ht (h.tmps t htt), h.defers, fun b o hb => by rw [hosz]; exact h.okb b o hb, h.okm, h.ok0, fun b p hp => by rw [hosz]; exact h.own b p hp, fun d1 hd1 => ?_, fun d1 o' l0 x1 x2 => ?_, fun p hp => ht _ _ (h.pins p hp)⟩
  · rw [g2 k (fun hh => by rcases (h.own _ _ o1).2.1 with h5 | h5; omega; exact hL (by rw [hh]; exact h5))]
    exact h.fr.block k hk hL
  · rw [Env.setObj_len] at hd1
    by_cases hdd : d = d1
    · subst hdd
      have hat' := hat d
      rw [if_pos rfl] at hat'
      rw [Env.kind_of hat']
      exact ⟨o1, es', cl', g1, hs, fun i hi => by
        obtain ⟨x1, x2, x3, x4⟩ := hr i hi
        exact ⟨x1.mono (fun _ _ h => h) hsame, x2, x3.mono (fun _ _ h => h) hsame, x4⟩⟩
    · have : (e.setObj d ⟨ob.gen, ob.vs, .map l'⟩).kind d1 = e.kind d1 := by
        unfold Env.kind; rw [hat d1, if_neg hdd]
      rw [this]
      exact hstay.stays (n := 0) d1 _ hd1 (fun hh => hdd hh.symm) (h.objs d1 hd1)
  · rw [hat d1] at x1
    by_cases hdd : d = d1
    · subst hdd
      rw [if_pos rfl] at x1
      cases x1; cases x2
    · rw [if_neg hdd] at x1
      exact h.vlen d1 o' l0 x1 x2
omit [Dr] in
theorem run_mapNew {t kt et : TypeId} {D : TypeDesc} {kv v : Value} {r cl : Nat} {es : Array MapEntry} (ht : P.underlying t = some (.map kt et)) (hD : P.underlying kt = some D) (hk : MapKept.IsKey D kv) (hb : w.heap[r]? = some (.map es cl)) (hf : Instr.findNow D kv es.toList 0 = some none) :
    (Instr.mapUpdate t (.map (some r)) kv v).run P w = .ok () { w with heap := w.heap.setIfInBounds r (.map (es.push { key := kv, val := v, born := cl }) (cl + 1)) } := by
  have hc := MapKept.run_checkKey (P := P) (w := w) hD hk false 9999
  simp [Instr.mapUpdate, run_underlying ht, MapKept.run_getObj_map hb, hc, MapKept.run_findKey hD hf, MapKept.run_setObj_map _ hb, Result.andThen]
omit [Dr] in
theorem run_mapOld {t kt et : TypeId} {D : TypeDesc} {kv v u : Value} {r cl j : Nat} {es : Array MapEntry} (ht : P.underlying t = some (.map kt et)) (hD : P.underlying kt = some D) (hk : MapKept.IsKey D kv) (hb : w.heap[r]? = some (.map es cl)) (hf : Instr.findNow D kv es.toList 0 = some (some (j, u))) (hj : ((es[j]?).map (·.key)).getD kv = kv) :
    (Instr.mapUpdate t (.map (some r)) kv v).run P w = .ok () { w with heap := w.heap.setIfInBounds r (.map (es.modify j fun e => { e with key := kv, val := v }) cl) } := by
  have hc := MapKept.run_checkKey (P := P) (w := w) hD hk false 9999
  simp [Instr.mapUpdate, run_underlying ht, MapKept.run_getObj_map hb, hc, MapKept.run_findKey hD hf, hj, MapKept.run_keyThatStays hk, MapKept.run_setObj_map _ hb, Result.andThen]
/-- An entry is set. -/
theorem sim_mset (h : Rel w0 L ok0 e a w G) {t kt et : TypeId} {m k v : Operand} {m' k' v' : X} {kd : Option IntKind} (hm : compX m = some m') (hk : compX k = some k') (hv : compX v = some v') (ho : o.op = .mapUpdate t m k v) (hdst : o.dst = none) (ht : P.underlying t = some (.map kt et)) (hkd : keyKind P kt = some kd)
    (he : evalO R e o.dst (.mset kd m' k' v') = some e') (hK : ∀ a' w' G', Rel w0 L ok0 e' a' w' G' → K a' w') : o.wp P a w K Q := by
  simp only [evalO, Env.mapSet] at he
  have h1 := compX_rep hm h
  have h2 := compX_rep hk h
  have h3 := compX_rep hv h
  cases hgm : e.get m' <;> simp only [hgm] at he h1 <;> try (cases he; done)
  rename_i d g
  cases hob : e.obj d g with
  | none => simp [hob] at he
  | some ob =>
    simp only [hob] at he
    cases hkk : ob.k <;> simp only [hkk] at he <;> try (cases he; done)
    rename_i l
    by_cases hko : keyOk kd (e.get k') = true ∧ (e.get v').pure = true
    case neg => rw [if_neg hko] at he; cases he
    rw [if_pos hko] at he
    obtain ⟨D, hD, hkr⟩ := keyRep_of hkd h2 hko.1
    obtain ⟨hd, ho1, ho2, hv1, how, es, cl, m1, m2, m3⟩ := mref_obj h h1 hob hkk
    have hkf := hkr.flat
    have hkrep : RepR w G.ok (a.eval k) (e.get k') := by
      rcases hkr with ⟨s, _, _, x1, x2⟩ | ⟨κ, n, _, _, x1, x2⟩
      · rw [x1, x2]; exact .str _
      · rw [x1, x2]; exact .int _ _
    have hvrep : RepR w G.ok (a.eval v) (e.get v') := by
      have : RepT0 w G e (a.eval v) (e.get v') := by
        have hp := hko.2
        generalize e.get v' = B at hp h3
        cases B <;> first | exact h3 | (cases hp; done)
      exact this.pureOf hko.2
    have hsz : es.size = l.length := by simpa using m2
    cases hg : mapGet (e.get k') l with
    | none => simp [hg] at he
    | some r =>
      rcases findNow_get (ok := G.ok) hkr es.toList l 0 r m2 (fun j hj => (m3 j hj).1) hg with ⟨rfl, r2⟩ | ⟨j, B, rfl, r2, r3, r4, r5, r6⟩
      · simp only [hg, Option.some.injEq] at he
        subst he
        refine wp_skip' (w' := { w with heap := w.heap.setIfInBounds (G.bl d) (.map (es.push { key := a.eval k, val := a.eval v, born := cl }) (cl + 1)) }) ?_ ?_
        · simp only [execOp, ho, Sem.run_bind, hv1, run_mapNew ht hD hkr.isKey m1 r2, Result.andThen_ok, Sem.run_pure]
        · rw [hdst]
          refine hK _ _ _ (h.mapSet ho1 hkk m1 (by simp [hsz]) (fun i hi => ?_))
          by_cases hil : i < l.length
          · have e1 : (es.push { key := a.eval k, val := a.eval v, born := cl }).getD i default = es.toList.getD i default := by
              rw [Array.getD_eq_getD_getElem?, Array.getElem?_push_lt (by omega), List.getD_eq_getElem?_getD, Array.getElem?_toList, Array.getElem?_eq_getElem (by omega)]
            have e2 : (l ++ [(e.get k', e.get v')]).getD i (.unk, .unk) = l.getD i (.unk, .unk) := by
              rw [List.getD_eq_getElem?_getD, List.getElem?_append_left hil, ← List.getD_eq_getElem?_getD]
            rw [e1, e2]; exact m3 i hil
          · obtain rfl : i = l.length := by simp at hi; omega
            have e1 : (es.push { key := a.eval k, val := a.eval v, born := cl }).getD l.length default = { key := a.eval k, val := a.eval v, born := cl } := by
              rw [← hsz, Array.getD_eq_getD_getElem?, Array.getElem?_push_size]; rfl
            have e2 : (l ++ [(e.get k', e.get v')]).getD l.length (.unk, .unk) = (e.get k', e.get v') := by
              rw [List.getD_eq_getElem?_getD, List.getElem?_append_right (Nat.le_refl _)]; simp
            rw [e1, e2]
            exact ⟨hkrep, hkf, hvrep, hko.2⟩
      · simp only [hg] at he
        rw [r6] at he
        simp only [Option.some.injEq] at he
        subst he
        rw [Nat.zero_add] at r3
        have hjs : j < es.size := by omega
        have hkey : ((es[j]?).map (·.key)).getD (a.eval k) = a.eval k := by
          rw [Array.getElem?_eq_getElem hjs]
          rw [List.getD_eq_getElem?_getD, Array.getElem?_toList, Array.getElem?_eq_getElem hjs] at r5
          exact r5
        refine wp_skip' (w' := { w with heap := w.heap.setIfInBounds (G.bl d) (.map (es.modify j fun e => { e with key := a.eval k, val := a.eval v }) cl) }) ?_ ?_
        · simp only [execOp, ho, Sem.run_bind, hv1, run_mapOld ht hD hkr.isKey m1 r3 hkey, Result.andThen_ok, Sem.run_pure]
        · rw [hdst]
          refine hK _ _ _ (h.mapSet ho1 hkk m1 (by simp [hsz]) (fun i hi => ?_))
          have hil : i < l.length := by simpa using hi
          have his : i < es.size := by omega
          by_cases hij : i = j
          · subst hij
            have e1 : (es.modify i fun e => { e with key := a.eval k, val := a.eval v }).getD i default = { es[i] with key := a.eval k, val := a.eval v } := by
              rw [Array.getD_eq_getD_getElem?, Array.getElem?_modify, if_pos rfl, Array.getElem?_eq_getElem his]; rfl
            have e2 : (l.set i ((l.getD i (.unk, .unk)).1, e.get v')).getD i (.unk, .unk) = ((l.getD i (.unk, .unk)).1, e.get v') := getD_set_eq _ _ _ _ hil
            rw [e1, e2]
            have m4 := m3 i hil
            rw [r5] at m4
            exact ⟨m4.1, m4.2.1, hvrep, hko.2⟩
          · have e1 : (es.modify j fun e => { e with key := a.eval k, val := a.eval v }).getD i default = es.toList.getD i default := by
              rw [Array.getD_eq_getD_getElem?, Array.getElem?_modify, if_neg (fun hh => hij hh.symm), List.getD_eq_getElem?_getD, Array.getElem?_toList]
            have e2 : (l.set j ((l.getD j (.unk, .unk)).1, e.get v')).getD i (.unk, .unk) = l.getD i (.unk, .unk) := getD_set_ne _ _ _ _ _ (fun hh => hij hh.symm)
            rw [e1, e2]; exact m3 i hil
end
end Go.Nv
/- BY VALUE, with trees. Part 38: each operation does what the evaluator says. -/
namespace Go.Nv
variable [Dr]
open Go.RowKit
section
variable {P : Program} {w0 w' : World} {L : Lend} {ok0 : Nat → Nat → Prop} {e : Env} {a : Act} {w : World} {G G' : Gh} {o : Oper} {A : AV}
variable {R : Nat → List AV → Option AV} {K : Act → World → Prop} {Q : Exit → Act → World → Prop} {e' : Env}
omit [Dr] in
theorem omap {α β : Type} {x : Option α} {f : α → β} {b : β} (h : x.map f = some b) : ∃ a, x = some a ∧ f a = b := by
  cases x with
  | none => cases h
  | some a => exact ⟨a, rfl, by simpa using h⟩
theorem fin (h : Rel w0 L ok0 e a w G) {op : O} (heq : evalO R e o.dst op = (match act e op with
    | some A => some (e.put o.dst A)
    | none => none)) (hs : ∀ A, act e op = some A → SimV P o a w G e A) (he : evalO R e o.dst op = some e') (hK : ∀ a' w' G', Rel w0 L ok0 e' a' w' G' → K a' w') : o.wp P a w K Q := by
  rw [heq] at he
  cases hA : act e op with
  | none => simp [hA] at he
  | some A =>
    simp only [hA, Option.some.injEq] at he
    subst he
    obtain ⟨v, h1, h2⟩ := hs A hA
    exact wp_value h1 (hK _ _ _ (h.put o.dst h2))
omit [Dr] in
theorem run_call {f : Nat} {fn : Func} {c : Call} (ho : o.op = .call c) (hc : c.callee = .value (.func f)) (hf : P.funcs[f]? = some fn) (hn : (fn.name == "runtime.NumGoroutine") = false) (hb : fn.body.isSome = true) :
    (execOp a.eval o).run P w = .ok (.enter f (c.args.map a.eval)) w := by
  have hn' : ¬ fn.name = "runtime.NumGoroutine" := by simpa using hn
  have hb' : ¬ fn.body = none := by intro hh; rw [hh] at hb; cases hb
  simp [execOp, ho, resolve, hc, Act.eval, Deferred.ofValue, invoke, callFunc, hf, hn', hb']
theorem sim_enter {f : Nat} {vs : List Value} (hrun : (execOp a.eval o).run P w = .ok (.enter f vs.toArray) w) (hC : Calls P f vs.toArray w fun en w' => ∃ v G', en = .returned v ∧ Rel w0 L ok0 e' (a.put o.dst v) w' G') (hK : ∀ a' w' G', Rel w0 L ok0 e' a' w' G' → K a' w') : o.wp P a w K Q := by
  unfold Oper.wp
  rw [hrun]
  refine hC.mono fun en w' hh => ?_
  obtain ⟨v, G', rfl, h2⟩ := hh
  exact hK _ _ _ h2
theorem sim_call (hR : VSound P R) (h : Rel w0 L ok0 e a w G) {f : Nat} {fn : Func} {c : Call} {xs : List X} {ms : List Md} (ho : o.op = .call c) (hc : c.callee = .value (.func f)) (hf : P.funcs[f]? = some fn) (hn : (fn.name == "runtime.NumGoroutine") = false) (hb : fn.body.isSome = true)
    (hxs : compXs c.args.toList = some xs) (he : evalO R e o.dst (.call f ms xs) = some e') (hK : ∀ a' w' G', Rel w0 L ok0 e' a' w' G' → K a' w') : o.wp P a w K Q := by
  simp only [evalO] at he
  obtain ⟨x1, x2⟩ := compXs_rep hxs h
  have ea : (c.args.toList.map a.eval).toArray = c.args.map a.eval := by apply Array.ext'; simp
  have hC := (callA_rep (As := xs.map e.get) (vs := c.args.toList.map a.eval) h hR (by simp [x1]) (fun j hj => by
    have hj' : j < xs.length := by simpa using hj
    have := x2 j hj'
    rw [show (xs.map e.get).getD j .unk = e.get (xs.getD j default) by simp [List.getD_eq_getElem?_getD, List.getElem?_eq_getElem hj']]
    exact this) he).2
  exact sim_enter (vs := c.args.toList.map a.eval) (by rw [ea]; exact run_call ho hc hf hn hb) hC hK
omit [Dr] in
theorem run_calld {t : Nat} {f : Nat} {cs : Array Value} {c : Call} (ho : o.op = .call c) (hc : c.callee = .value (.tmp t)) (hv : a.tmps.getD t undef = .func (.func f) #[] cs) (hf : callable P f = true) :
    (execOp a.eval o).run P w = .ok (.enter f (c.args.map a.eval ++ cs)) w := by
  unfold callable at hf
  cases hfn : P.funcs[f]? with
  | none => simp [hfn] at hf
  | some fn =>
    simp only [hfn, Bool.and_eq_true, Bool.not_eq_true'] at hf
    have hn' : ¬ fn.name = "runtime.NumGoroutine" := by simpa using hf.1
    have hb' : ¬ fn.body = none := by intro hh; rw [hh] at hf; cases hf.2
    have he : a.eval (.tmp t) = .func (.func f) #[] cs := hv
    simp [execOp, ho, resolve, hc, he, Deferred.ofValue, invoke, callFunc, hfn, hn', hb']
theorem sim_calld (hR : VSound P R) (h : Rel w0 L ok0 e a w G) {t : Nat} {c : Call} {xs : List X} (ho : o.op = .call c) (hc : c.callee = .value (.tmp t))
    (hxs : compXs c.args.toList = some xs)
    (he : evalO R e o.dst (.calld (.t t) xs) = some e') (hK : ∀ a' w' G', Rel w0 L ok0 e' a' w' G' → K a' w') : o.wp P a w K Q := by
  simp only [evalO] at he
  have hx0 : compX (.tmp t) = some (.t t) := rfl
  have hrep := compX_rep hx0 h
  obtain ⟨x1, x2⟩ := compXs_rep hxs h
  have go : ∀ (f : Nat) (l : List AV) (cs : Array Value), a.tmps.getD t undef = .func (.func f) #[] cs → cs.size = l.length → (∀ j, j < l.length → RepT w G e (cs.getD j undef) (l.getD j .unk)) →
      callA R e o.dst f (List.replicate (xs.length + l.length) .ro) (xs.map e.get ++ l) = some e' → o.wp P a w K Q := by
    intro f l cs hv hs hcs hcall
    have ea : (c.args.toList.map a.eval ++ cs.toList).toArray = c.args.map a.eval ++ cs := by apply Array.ext'; simp
    obtain ⟨hcb, hC⟩ := callA_rep (As := xs.map e.get ++ l) (vs := c.args.toList.map a.eval ++ cs.toList) h hR (by simp only [List.length_append, List.length_map, x1, Array.length_toList, hs]) (fun j hj => by
      by_cases hj' : j < xs.length
      · have := x2 j hj'
        rw [show (xs.map e.get ++ l).getD j .unk = e.get (xs.getD j default) by simp [List.getD_eq_getElem?_getD, List.getElem?_append_left, hj', List.getElem?_eq_getElem hj'], show (c.args.toList.map a.eval ++ cs.toList).getD j undef = (c.args.toList.map a.eval).getD j undef by rw [List.getD_eq_getElem?_getD, List.getElem?_append_left (by simp only [List.length_map]; omega), ← List.getD_eq_getElem?_getD]]
        exact this
      · have hjl : j - xs.length < l.length := by simp only [List.length_append, List.length_map] at hj; omega
        have := hcs (j - xs.length) hjl
        rw [show (xs.map e.get ++ l).getD j .unk = l.getD (j - xs.length) .unk by rw [List.getD_eq_getElem?_getD, List.getElem?_append_right (by simp; omega), ← List.getD_eq_getElem?_getD]; simp,
          show (c.args.toList.map a.eval ++ cs.toList).getD j undef = cs.getD (j - xs.length) undef by
            rw [List.getD_eq_getElem?_getD, List.getElem?_append_right (by simp only [List.length_map]; omega), Array.getD_eq_getD_getElem?, Array.getElem?_toList]
            simp only [List.length_map, x1]]
        exact this) hcall
    exact sim_enter (vs := c.args.toList.map a.eval ++ cs.toList) (by rw [ea]; exact run_calld ho hc hv hcb) hC hK
  cases hg : e.get (.t t) <;> simp only [hg] at he hrep <;> try (cases he; done)
  · rename_i f l
    have h1 : RepR w G.ok (a.tmps.getD t undef) (.fn f l) := hrep
    generalize hv : a.tmps.getD t undef = v at h1
    cases h1 with
    | fn f vs l hs hp hr =>
      exact go f l vs hv hs (fun j hj => (hr j hj).toT) he
  · rename_i f l
    obtain ⟨vs, hv, hs, hr⟩ := hrep
    exact go f l vs hv hs (fun j hj => (hr j hj).toT) he
/-- **Each operation of the machine that can be told does what the evaluator says.** -/
theorem simO (hR : VSound P R) (h : Rel w0 L ok0 e a w G) {op : O} (hc : compO P o = some op) (he : evalO R e o.dst op = some e')
    (hK : ∀ a' w' G', Rel w0 L ok0 e' a' w' G' → K a' w') : o.wp P a w K Q := by
  cases hop : o.op <;> simp only [compO, hop] at hc <;> try (cases hc; done)
  case move x =>
    obtain ⟨y, h1, rfl⟩ := omap hc
    exact fin h rfl (fun A hA => sim_mv  h h1 (.inl hop) hA) he hK
  case assign x =>
    obtain ⟨y, h1, rfl⟩ := omap hc
    exact fin h rfl (fun A hA => sim_mv  h h1 (.inr hop) hA) he hK
  case pick c x y =>
    cases h1 : compX c with
    | none => simp [h1] at hc
    | some c' =>
      cases h2 : compX x with
      | none => simp [h1, h2] at hc
      | some x' =>
        cases h3 : compX y with
        | none => simp [h1, h2, h3] at hc
        | some y' =>
          simp only [h1, h2, h3, Option.some.injEq] at hc
          subst hc
          exact fin h rfl (fun A hA => sim_pick  h h1 h2 h3 hop hA) he hK
  case alloc T =>
    obtain ⟨z, h1, rfl⟩ := omap hc
    exact sim_new h hop h1 he hK
  case box T x =>
    obtain ⟨y, h1, rfl⟩ := omap hc
    exact sim_box h h1 hop he hK
  case build t parts =>
    cases h1 : P.underlying t with
    | none => simp [h1] at hc
    | some D =>
      cases D <;> simp only [h1] at hc <;> try (cases hc; done)
      rename_i fields
      cases h2 : zeroOf P t with
      | none => simp [h2] at hc
      | some z =>
        simp only [h2] at hc
        cases h3 : fields.toList.mapM (fun f => (P.info? f.type).map fun i => (f.offset, i.size)) with
        | none => simp [h3] at hc
        | some places =>
          simp only [h3] at hc
          cases h4 : partsOf places parts.toList with
          | none => simp [h4] at hc
          | some qs =>
            simp only [h4] at hc
            cases hc
            exact fin h rfl (fun A hA => sim_bld h hop h1 h2 h3 h4 hA) he hK
  case buildSlice t len parts =>
    cases h1 : P.underlying t with
    | none => simp [h1] at hc
    | some D =>
      cases D <;> simp only [h1] at hc <;> try (cases hc; done)
      rename_i el
      cases h2 : zeroOf P el with
      | none => simp [h2] at hc
      | some z =>
        cases h3 : compXs (parts.toList.map (·.2)) with
        | none => simp [h2, h3] at hc
        | some xs =>
          simp only [h2, h3] at hc
          by_cases hb : parts.toList.map (·.1) = List.range len ∧ 0 < z.2.1 ∧ len * z.2.1 ≤ 16777216
          case neg => rw [if_neg hb] at hc; cases hc
          rw [if_pos hb] at hc
          cases hc
          exact sim_lit h hop h1 h2 h3 hb.1 hb.2.1 hb.2.2 he hK
  case load t x =>
    cases h1 : compX x with
    | none => simp [h1] at hc
    | some x' =>
      cases h2 : P.underlying t with
      | none => simp [h1, h2] at hc
      | some D =>
        cases h3 : sizeOf? P t with
        | none => simp [h1, h2, h3] at hc
        | some n =>
          simp only [h1, h2, h3] at hc
          cases D <;> simp only [Option.some.injEq] at hc <;> subst hc <;> first
            | exact fin h rfl (fun A hA => sim_ldn  h h1 hop h2 (.inl ⟨_, rfl⟩) h3 hA) he hK
            | exact fin h rfl (fun A hA => sim_ldn  h h1 hop h2 (.inr ⟨_, _, rfl⟩) h3 hA) he hK
            | exact fin h rfl (fun A hA => sim_ld1  h h1 hop h2 (fun _ hh => by cases hh) (fun _ _ hh => by cases hh) hA) he hK
  case store t p x =>
    by_cases hd : o.dst = none
    case neg => rw [if_neg hd] at hc; cases hc
    rw [if_pos hd] at hc
    cases h1 : compX p with
    | none => simp [h1] at hc
    | some p' =>
      cases h2 : compX x with
      | none => simp [h1, h2] at hc
      | some x' =>
        cases h3 : sizeOf? P t with
        | none => simp [h1, h2, h3] at hc
        | some n =>
          simp only [h1, h2, h3, Option.some.injEq] at hc
          subst hc
          exact sim_st h h1 h2 h3 hop hd he hK
  case nilCheck x =>
    obtain ⟨y, h1, rfl⟩ := omap hc
    exact fin h rfl (fun A hA => sim_nck  h h1 hop hA) he hK
  case binOp op' T x y U =>
    cases h1 : compX x with
    | none => simp [h1] at hc
    | some x' =>
      cases h2 : compX y with
      | none => simp [h1, h2] at hc
      | some y' =>
        cases h3 : P.underlying T with
        | none => simp [h1, h2, h3] at hc
        | some D =>
          simp only [h1, h2, h3] at hc
          cases D <;> simp only at hc <;> try (cases hc; done)
          case int k =>
            cases hc
            exact fin h rfl (fun A hA => sim_bin  h h1 h2 hop hA) he hK
          case string =>
            cases hc
            exact fin h rfl (fun A hA => sim_bin  h h1 h2 hop hA) he hK
          case bool =>
            by_cases q1 : op' = .eql
            · rw [if_pos q1] at hc
              cases hc
              exact fin h rfl (fun A hA => sim_beq  (ne := false) h h1 h2 hop (by simpa using q1) h3 hA) he hK
            · rw [if_neg q1] at hc
              by_cases q2 : op' = .neq
              · rw [if_pos q2] at hc
                cases hc
                exact fin h rfl (fun A hA => sim_beq  (ne := true) h h1 h2 hop (by simpa using q2) h3 hA) he hK
              · rw [if_neg q2] at hc; cases hc
          case slice el =>
            cases y' with
            | t n => simp at hc
            | c B =>
              cases B <;> simp only at hc <;> try (cases hc; done)
              by_cases q1 : op' = .eql
              · rw [if_pos q1] at hc
                cases hc
                exact fin h rfl (fun A hA => sim_isns (ne := false) h h1 h2 hop (by simpa using q1) h3 hA) he hK
              · rw [if_neg q1] at hc
                by_cases q2 : op' = .neq
                · rw [if_pos q2] at hc
                  cases hc
                  exact fin h rfl (fun A hA => sim_isns (ne := true) h h1 h2 hop (by simpa using q2) h3 hA) he hK
                · rw [if_neg q2] at hc; cases hc
          case pointer el =>
            cases y' with
            | t n => simp at hc
            | c B =>
              cases B <;> simp only at hc <;> try (cases hc; done)
              by_cases q1 : op' = .eql
              · rw [if_pos q1] at hc
                cases hc
                exact fin h rfl (fun A hA => sim_isnp (ne := false) h h1 h2 hop (by simpa using q1) h3 hA) he hK
              · rw [if_neg q1] at hc
                by_cases q2 : op' = .neq
                · rw [if_pos q2] at hc
                  cases hc
                  exact fin h rfl (fun A hA => sim_isnp (ne := true) h h1 h2 hop (by simpa using q2) h3 hA) he hK
                · rw [if_neg q2] at hc; cases hc
          case struct fs =>
            by_cases q0 : P.eqGuardType P.depth T = false
            case neg => rw [if_neg q0] at hc; cases hc
            rw [if_pos q0] at hc
            cases h4 : plainT P 20 T with
            | none => simp [h4] at hc
            | some ks =>
              simp only [h4] at hc
              by_cases q1 : op' = .eql
              · rw [if_pos q1] at hc
                cases hc
                exact fin h rfl (fun A hA => sim_eqs  (ne := false) h h1 h2 hop (by simpa using q1) h3 q0 h4 hA) he hK
              · rw [if_neg q1] at hc
                by_cases q2 : op' = .neq
                · rw [if_pos q2] at hc
                  cases hc
                  exact fin h rfl (fun A hA => sim_eqs  (ne := true) h h1 h2 hop (by simpa using q2) h3 q0 h4 hA) he hK
                · rw [if_neg q2] at hc; cases hc
  case unOp op' T x =>
    obtain ⟨y, h1, rfl⟩ := omap hc
    exact fin h rfl (fun A hA => sim_un  h h1 hop hA) he hK
  case convert s d x =>
    cases h1 : compX x with
    | none => simp [h1] at hc
    | some x' =>
      cases h2 : P.underlying s with
      | none => simp [h1, h2] at hc
      | some S =>
        cases h3 : P.underlying d with
        | none => simp [h1, h2, h3] at hc
        | some D =>
          simp only [h1, h2, h3] at hc
          cases D <;> cases S <;> simp only at hc <;> try (cases hc; done)
          case int.int k k' =>
            cases hc
            exact fin h rfl (fun A hA => sim_cvi  h h1 hop (by rw [h2]; rfl) h3 hA) he hK
          case string.string =>
            cases hc
            exact fin h rfl (fun A hA => sim_cvs  h h1 hop h2 h3 hA) he hK
          case string.slice el =>
            by_cases q : isU8 P el = true
            case neg => rw [if_neg q] at hc; cases hc
            rw [if_pos q] at hc
            cases hc
            refine fin h rfl (fun A hA => sim_cvbs  h h1 hop h2 h3 ?_ hA) he hK
            unfold isU8 at q
            split at q
            · assumption
            · cases q
          case slice.string el =>
            by_cases q : isU8 P el = true
            case neg => rw [if_neg q] at hc; cases hc
            rw [if_pos q] at hc
            cases hc
            refine sim_cvsb h h1 hop h2 h3 ?_ he hK
            unfold isU8 at q
            split at q
            · assumption
            · cases q
  case makeSlice t l c =>
    cases h1 : P.underlying t with
    | none => simp [h1] at hc
    | some D =>
      cases D <;> simp only [h1] at hc <;> try (cases hc; done)
      rename_i el
      cases h2 : compX l with
      | none => simp [h2] at hc
      | some n =>
        simp only [h2] at hc
        cases h3 : zeroOf P el with
        | none => simp [h3] at hc
        | some z =>
          simp only [h3] at hc
          by_cases q : sameOp l c = true
          case neg => rw [if_neg q] at hc; cases hc
          rw [if_pos q] at hc
          cases hc
          by_cases q2 : a.eval c = a.eval l
          · exact sim_mk h hop h1 h3 h2 q2 he hK
          · exfalso
            unfold sameOp at q
            split at q
            · have : _ := eq_of_beq q
              subst this
              exact q2 rfl
            · rename_i k a' k' b'
              simp only [Bool.and_eq_true, beq_iff_eq] at q
              obtain ⟨rfl, q⟩ := q
              have hk : k = k' := by simpa using q
              subst hk
              exact q2 rfl
            · cases q
  case slice t x lo hi mx =>
    cases mx with
    | some m => simp at hc
    | none =>
      simp only at hc
      cases h1 : compX x with
      | none => simp [h1] at hc
      | some x' =>
        cases h2 : P.underlying t with
        | none => simp [h1, h2] at hc
        | some D =>
          cases h3 : compXo lo with
          | none => simp [h1, h2, h3] at hc
          | some lo' =>
            cases h4 : compXo hi with
            | none => simp [h1, h2, h3, h4] at hc
            | some hi' =>
              simp only [h1, h2, h3, h4] at hc
              cases D <;> simp only at hc <;> try (cases hc; done)
              case string =>
                cases hc
                exact fin h rfl (fun A hA => sim_subs  h h1 hop h2 h3 h4 hA) he hK
              case slice el =>
                obtain ⟨c, h5, rfl⟩ := omap hc
                exact sim_sub h h1 hop h2 h5 h3 h4 he hK
  case fieldAddr s x f =>
    cases h1 : compX x with
    | none => simp [h1] at hc
    | some x' =>
      cases h2 : P.underlying s with
      | none => simp [h1, h2] at hc
      | some D =>
        simp only [h1, h2] at hc
        cases D <;> simp only at hc <;> try (cases hc; done)
        rename_i fields
        cases h3 : fields[f]? with
        | none => simp [h3] at hc
        | some fd =>
          simp only [h3] at hc
          cases h4 : sizeOf? P fd.type with
          | none => simp [h4] at hc
          | some n =>
            simp only [h4] at hc
            by_cases q : n ≠ 0
            case neg => rw [if_neg q] at hc; cases hc
            rw [if_pos q] at hc
            cases hc
            exact fin h rfl (fun A hA => sim_fa  h h1 hop h2 h3 h4 q hA) he hK
  case indexAddr t x i =>
    cases h1 : compX x with
    | none => simp [h1] at hc
    | some x' =>
      cases h2 : compX i with
      | none => simp [h1, h2] at hc
      | some i' =>
        cases h3 : P.underlying t with
        | none => simp [h1, h2, h3] at hc
        | some D =>
          simp only [h1, h2, h3] at hc
          cases D <;> simp only at hc <;> try (cases hc; done)
          obtain ⟨c, h4, rfl⟩ := omap hc
          exact fin h rfl (fun A hA => sim_ia  h h1 h2 hop h3 h4 hA) he hK
  case lookup t x k ok =>
    split at hc
    · rename_i y j kt et h1 h2 h3
      split at hc
      · rename_i kd i h4 h5
        split at hc
        · rename_i z h6
          split at hc
          · rename_i Z h7
            by_cases q : i.size = 1
            case neg => rw [if_neg q] at hc; cases hc
            rw [if_pos q] at hc
            cases hc
            exact fin h rfl (fun A hA => sim_lkp h h1 h2 hop h3 h4 h5 h6 h7 hA) he hK
          · cases hc
        · cases hc
      · cases hc
    · cases hc
  case makeMap t r =>
    cases r with
    | none =>
      simp only [Option.some.injEq] at hc
      subst hc
      exact sim_mkm h hop he hK
    | some _ => simp at hc
  case mapUpdate t m k v =>
    by_cases hd : o.dst = none
    case neg => rw [if_neg hd] at hc; cases hc
    rw [if_pos hd] at hc
    split at hc
    · rename_i m' k' v' kt et h1 h2 h3 h4
      split at hc
      · rename_i kd h5
        cases hc
        exact sim_mset h h1 h2 h3 hop hd h4 h5 he hK
      · cases hc
    · cases hc
  case index t x i =>
    cases h1 : compX x with
    | none => simp [h1] at hc
    | some x' =>
      cases h2 : compX i with
      | none => simp [h1, h2] at hc
      | some i' =>
        cases h3 : P.underlying t with
        | none => simp [h1, h2, h3] at hc
        | some D =>
          simp only [h1, h2, h3] at hc
          cases D <;> simp only at hc <;> try (cases hc; done)
          cases hc
          exact fin h rfl (fun A hA => sim_ix  h h1 h2 hop h3 hA) he hK
  case extract t i =>
    obtain ⟨y, h1, rfl⟩ := omap hc
    exact fin h rfl (fun A hA => sim_ext  h h1 hop hA) he hK
  case makeFunc fn first caps =>
    cases fn <;> simp only at hc <;> try (cases hc; done)
    by_cases h0 : first.size = 0
    case neg => rw [if_neg h0] at hc; cases hc
    rw [if_pos h0] at hc
    obtain ⟨xs, h1, rfl⟩ := omap hc
    split at he
    · exact sim_clof h hop h0 h1 he hK
    · exact sim_clo h hop h0 h1 he hK
  case call c =>
    cases hcal : c.callee <;> simp only [hcal] at hc <;> try (cases hc; done)
    case value f =>
      cases f <;> simp only at hc <;> try (cases hc; done)
      case tmp t =>
        obtain ⟨xs, h1, rfl⟩ := omap hc
        exact sim_calld hR h hop hcal h1 he hK
      rename_i f
      cases h1 : P.funcs[f]? with
      | none => simp [h1] at hc
      | some fn =>
        cases h2 : compXs c.args.toList with
        | none => simp [h1, h2] at hc
        | some xs =>
          simp only [h1, h2] at hc
          by_cases q : (fn.name == "runtime.NumGoroutine") = false ∧ fn.body.isSome = true
          case neg => rw [if_neg q] at hc; cases hc
          rw [if_pos q] at hc
          cases h5 : modesOf P fn xs.length with
          | none => simp [h5] at hc
          | some ms =>
            simp only [h5, Option.some.injEq] at hc
            subst hc
            exact sim_call hR h hop hcal h1 q.1 q.2 h2 he hK
    case builtin b =>
      cases b <;> simp only at hc <;> try (cases hc; done)
      case len =>
        split at hc
        · rename_i x t hx ht
          have hargs : c.args = #[x] := by apply Array.ext'; simpa using hx
          have hts : c.argTypes = #[t] := by apply Array.ext'; simpa using ht
          cases h1 : compX x with
          | none => simp [h1] at hc
          | some x' =>
            cases h2 : P.underlying t with
            | none => simp [h1, h2] at hc
            | some D =>
              simp only [h1, h2] at hc
              cases D <;> simp only at hc <;> try (cases hc; done)
              · cases hc
                exact fin h rfl (fun A hA => sim_lens  h h1 hop hcal hargs hts h2 hA) he hK
              · cases hc
                exact fin h rfl (fun A hA => sim_len  h h1 hop hcal hargs hts h2 hA) he hK
        · cases hc
      case append =>
        split at hc
        · rename_i s x t u hx ht
          have hargs : c.args = #[s, x] := by apply Array.ext'; simpa using hx
          have hts : c.argTypes = #[t, u] := by apply Array.ext'; simpa using ht
          cases h1 : compX s with
          | none => simp [h1] at hc
          | some s' =>
            cases h2 : compX x with
            | none => simp [h1, h2] at hc
            | some x' =>
              cases h3 : P.underlying t with
              | none => simp [h1, h2, h3] at hc
              | some D =>
                simp only [h1, h2, h3] at hc
                cases D <;> simp only at hc <;> try (cases hc; done)
                rename_i el
                cases h4 : zeroOf P el with
                | none => simp [h4] at hc
                | some z =>
                  simp only [h4] at hc
                  by_cases q : 0 < z.2.1 ∧ 0 < z.2.2 ∧ u = t
                  case neg => rw [if_neg q] at hc; cases hc
                  rw [if_pos q] at hc
                  cases hc
                  obtain ⟨q1, q2, rfl⟩ := q
                  have he' : appendA e o.dst el z.2.1 z.2.2 (e.get s') (e.get x') = some e' := by
                    cases s' with
                    | t n => exact he
                    | c A => cases A <;> first | exact he | exact cpy_app he
                  exact sim_app h hop hcal hargs hts h1 h2 h3 h4 q1 q2 he' hK
        · cases hc
      case max =>
        split at hc
        · rename_i x y hx
          have hargs : c.args = #[x, y] := by apply Array.ext'; simpa using hx
          cases h1 : compX x with
          | none => simp [h1] at hc
          | some x' =>
            cases h2 : compX y with
            | none => simp [h1, h2] at hc
            | some y' =>
              simp only [h1, h2, Option.some.injEq] at hc
              subst hc
              exact fin h rfl (fun A hA => sim_max h hop hcal hargs h1 h2 hA) he hK
        · cases hc
      case min =>
        split at hc
        · rename_i x y hx
          have hargs : c.args = #[x, y] := by apply Array.ext'; simpa using hx
          cases h1 : compX x with
          | none => simp [h1] at hc
          | some x' =>
            cases h2 : compX y with
            | none => simp [h1, h2] at hc
            | some y' =>
              simp only [h1, h2, Option.some.injEq] at hc
              subst hc
              exact fin h rfl (fun A hA => sim_min h hop hcal hargs h1 h2 hA) he hK
        · cases hc
end
end Go.Nv
/- BY VALUE, with trees. Part 39: what an operation looks at. -/
namespace Go.Nv
variable [Dr]
/-- The keys that a value leads to. -/
def keys0 : AV → List Nat
  | .ref d _ _ _ _ => [d]
  | .ptr d _ _ _ _ => [d]
  | .mref d _ => [d]
  | _ => []
def keys1 : AV → List Nat
  | .agg l => l.flatMap keys0
  | A => keys0 A
def keysA : AV → List Nat
  | .tup l => l.flatMap keys1
  | .fnp _ l => l.flatMap keys1
  | .fn _ l => l.flatMap keys1
  | A => keys1 A
structure Same (K : List Nat) (e e' : Env) : Prop where
  len : e'.objs.length = e.objs.length
  at_ : ∀ d ∈ K, e'.objs[d]? = e.objs[d]?
structure Upd (W : List Nat) (e e1 : Env) : Prop where
  tm : e1.tmps = e.tmps
  len : e1.objs.length = e.objs.length
  out : ∀ d, d ∉ W → e1.objs[d]? = e.objs[d]?
section
variable {K : List Nat} {e e1 e2 e' e1' : Env}
omit [Dr] in
theorem Upd.refl : Upd K e e := ⟨rfl, rfl, fun _ _ => rfl⟩
omit [Dr] in
theorem Upd.trans (h : Upd K e e1) (k : Upd K e1 e2) : Upd K e e2 := ⟨k.tm.trans h.tm, k.len.trans h.len, fun d hd => (k.out d hd).trans (h.out d hd)⟩
omit [Dr] in
theorem Same.obj (h : Same K e e') {d : Nat} (hd : d ∈ K) (g : Nat) : e'.obj d g = e.obj d g := by simp only [Env.obj, h.at_ d hd]
omit [Dr] in
theorem Same.cellR (h : Same K e e') {d : Nat} (hd : d ∈ K) (g v : Nat) (q : Path) (j : Nat) : e'.cellR d g v q j = e.cellR d g v q j := by simp only [Env.cellR, h.obj hd]
omit [Dr] in
theorem Same.cellsP (h : Same K e e') {d : Nat} (hd : d ∈ K) (g v : Nat) (q : Path) : e'.cellsP d g v q = e.cellsP d g v q := by simp only [Env.cellsP, h.obj hd]
omit [Dr] in
theorem Same.gen (h : Same K e e') {d : Nat} (hd : d ∈ K) : e'.gen d = e.gen d := by simp only [Env.gen, h.at_ d hd]
omit [Dr] in
theorem Same.verOf (h : Same K e e') {d : Nat} (hd : d ∈ K) (q : Path) (j : Nat) : e'.verOf d q j = e.verOf d q j := by simp only [Env.verOf, h.at_ d hd]
/-- A step that stays among some keys. -/
def LocE (K : List Nat) (F : Env → Option Env) (e : Env) : Prop := ∀ e1, F e = some e1 → Upd K e e1 ∧ ∀ e', Same K e e' → ∃ e1', F e' = some e1' ∧ Upd K e' e1' ∧ Same K e1 e1'
def Loc {α : Type} (K : List Nat) (F : Env → Option (α × Env)) (e : Env) : Prop := ∀ x e1, F e = some (x, e1) → Upd K e e1 ∧ ∀ e', Same K e e' → ∃ e1', F e' = some (x, e1') ∧ Upd K e' e1' ∧ Same K e1 e1'
omit [Dr] in
theorem Same.setObj (h : Same K e e') (d : Nat) (o : AObj) : Same K (e.setObj d o) (e'.setObj d o) := by
  refine ⟨by simp [Env.setObj, h.len], fun d1 hd1 => ?_⟩
  have := h.at_ d1 hd1
  simp only [Env.setObj, List.getElem?_set, h.len]
  split
  · rfl
  · exact this
omit [Dr] in
theorem Upd.setObj {d : Nat} (hd : d ∈ K) (o : AObj) : Upd K e (e.setObj d o) := by
  refine ⟨rfl, Env.setObj_len _ _ _, fun d1 hd1 => ?_⟩
  have : d ≠ d1 := fun hh => hd1 (by rw [← hh]; exact hd)
  simp [Env.setObj, List.getElem?_set, this]
omit [Dr] in
theorem loc_turn {d : Nat} (hd : d ∈ K) (q : Path) (st : Option (Nat × Nat)) (f : List AV → List AV) : LocE K (fun e => e.turn d q st f) e := by
  intro e1 h1
  simp only [Env.turn] at h1
  cases ho : e.objs[d]? with
  | none => simp [ho] at h1
  | some o =>
    simp only [ho] at h1
    cases hl : o.k.cells with
    | none => simp [hl] at h1
    | some l =>
      simp only [hl, Option.some.injEq] at h1
      subst h1
      refine ⟨.setObj hd _, fun e' hs => ⟨_, by simp only [Env.turn, hs.at_ d hd, ho, hl], .setObj hd _, hs.setObj _ _⟩⟩
omit [Dr] in
theorem loc_make {d : Nat} (hd : d ∈ K) (n : Nat) (k : OK) : LocE K (fun e => e.make d n k) e := by
  intro e1 h1
  simp only [Env.make] at h1
  by_cases hl : d < e.objs.length
  case neg => rw [if_neg hl] at h1; cases h1
  rw [if_pos hl] at h1
  cases h1
  exact ⟨.setObj hd _, fun e' hs => ⟨_, by simp only [Env.make, hs.len, if_pos hl, hs.gen hd], .setObj hd _, hs.setObj _ _⟩⟩
omit [Dr] in
/-- What is read alone. -/
theorem Loc.pure {α : Type} {F : Env → Option (α × Env)} {x : α} (h : F e = some (x, e)) (h' : ∀ e', Same K e e' → F e' = some (x, e')) : Loc K F e := by
  intro y e1 h1
  rw [h] at h1
  cases h1
  exact ⟨.refl, fun e' hs => ⟨e', h' e' hs, .refl, hs⟩⟩
omit [Dr] in
theorem loc_take1 {A : AV} (hA : ∀ d ∈ keys0 A, d ∈ K) : Loc K (fun e => e.take1 A) e := by
  intro x e1 h1
  cases A
  case ref d g v q j =>
    have hd : d ∈ K := hA d (by simp [keys0])
    simp only [Env.take1] at h1
    cases hc : e.cellR d g v q j with
    | none => simp [hc] at h1
    | some C =>
      cases C <;> simp only [hc] at h1 <;> try (cases h1; done)
      · cases h1
        exact ⟨.refl, fun e' hs => ⟨e', by simp only [Env.take1, hs.cellR hd, hc], .refl, hs⟩⟩
      · cases ht : e.turn d q none (fun m => m.set j .unk) with
        | none => simp [ht] at h1
        | some e2 =>
          simp only [ht, Option.some.injEq, Prod.mk.injEq] at h1
          obtain ⟨rfl, rfl⟩ := h1
          obtain ⟨r1, r2⟩ := loc_turn hd _ _ _ e2 ht
          refine ⟨r1, fun e' hs => ?_⟩
          obtain ⟨e1', s1, s2, s3⟩ := r2 e' hs
          exact ⟨e1', by simp only [Env.take1, hs.cellR hd, hc, s1], s2, s3⟩
  all_goals
    simp only [Env.take1] at h1
    split at h1
    · rename_i hp
      cases h1
      exact ⟨.refl, fun e' hs => ⟨e', by simp only [Env.take1]; rw [if_pos hp], .refl, hs⟩⟩
    · cases h1
omit [Dr] in
theorem loc_takes : ∀ {l : List AV} {e : Env}, (∀ A ∈ l, ∀ d ∈ keys0 A, d ∈ K) → Loc K (fun e => e.takes l) e
  | [], e, _ => fun x e1 h1 => by
    simp only [Env.takes, Option.some.injEq, Prod.mk.injEq] at h1
    obtain ⟨rfl, rfl⟩ := h1
    exact ⟨.refl, fun e' hs => ⟨e', rfl, .refl, hs⟩⟩
  | A :: l, e, hA => fun x e1 h1 => by
    simp only [Env.takes] at h1
    cases ht : e.take1 A with
    | none => simp [ht] at h1
    | some r =>
      obtain ⟨B, e2⟩ := r
      simp only [ht] at h1
      cases ht2 : e2.takes l with
      | none => simp [ht2] at h1
      | some r2 =>
        obtain ⟨m, e3⟩ := r2
        simp only [ht2, Option.some.injEq, Prod.mk.injEq] at h1
        obtain ⟨rfl, rfl⟩ := h1
        obtain ⟨a1, a2⟩ := loc_take1 (hA A List.mem_cons_self) B e2 ht
        obtain ⟨b1, b2⟩ := loc_takes (e := e2) (fun B hB => hA B (List.mem_cons_of_mem _ hB)) m e3 ht2
        refine ⟨a1.trans b1, fun e' hs => ?_⟩
        obtain ⟨e2', c1, c2, c3⟩ := a2 e' hs
        obtain ⟨e3', d1, d2, d3⟩ := b2 e2' c3
        exact ⟨e3', by simp only at c1 d1; simp only [Env.takes, c1, d1], c2.trans d2, d3⟩
omit [Dr] in
theorem loc_freeze1 {A : AV} (hA : ∀ d ∈ keys0 A, d ∈ K) : LocE K (fun e => e.freeze1 A) e := by
  intro e1 h1
  cases A
  case ref d g v q j =>
    have hd : d ∈ K := hA d (by simp [keys0])
    simp only [Env.freeze1] at h1
    cases hc : e.cellR d g v q j with
    | none => simp [hc] at h1
    | some C =>
      cases C <;> simp only [hc] at h1 <;> try (cases h1; done)
      · cases h1
        exact ⟨.refl, fun e' hs => ⟨e', by simp only [Env.freeze1, hs.cellR hd, hc], .refl, hs⟩⟩
      · rename_i E c l
        cases hv : viewT (.row E c l) with
        | none => simp [hv] at h1
        | some B =>
          simp only [hv] at h1
          obtain ⟨r1, r2⟩ := loc_turn hd _ _ _ e1 h1
          refine ⟨r1, fun e' hs => ?_⟩
          obtain ⟨e1', s1, s2, s3⟩ := r2 e' hs
          exact ⟨e1', by simp only [Env.freeze1, hs.cellR hd, hc, hv]; exact s1, s2, s3⟩
  case agg l => cases h1
  all_goals
    cases h1
    exact ⟨.refl, fun e' hs => ⟨e', rfl, .refl, hs⟩⟩
omit [Dr] in
theorem loc_freezes : ∀ {l : List AV} {e : Env}, (∀ A ∈ l, ∀ d ∈ keys0 A, d ∈ K) → LocE K (fun e => e.freezes l) e
  | [], e, _ => fun e1 h1 => by
    cases h1
    exact ⟨.refl, fun e' hs => ⟨e', rfl, .refl, hs⟩⟩
  | A :: l, e, hA => fun e1 h1 => by
    simp only [Env.freezes] at h1
    cases ht : e.freeze1 A with
    | none => simp [ht] at h1
    | some e2 =>
      simp only [ht] at h1
      obtain ⟨a1, a2⟩ := loc_freeze1 (hA A List.mem_cons_self) e2 ht
      obtain ⟨b1, b2⟩ := loc_freezes (e := e2) (fun B hB => hA B (List.mem_cons_of_mem _ hB)) e1 h1
      refine ⟨a1.trans b1, fun e' hs => ?_⟩
      obtain ⟨e2', c1, c2, c3⟩ := a2 e' hs
      obtain ⟨e3', d1, d2, d3⟩ := b2 e2' c3
      exact ⟨e3', by simp only at c1 d1; simp only [Env.freezes, c1, d1], c2.trans d2, d3⟩
/-! ### Reading -/
omit [Dr] in
theorem Same.view1 (h : Same K e e') {A : AV} (hA : ∀ d ∈ keys0 A, d ∈ K) : e'.view1 A = e.view1 A := by
  cases A
  case ref d g v q j => simp only [Env.view1, h.cellR (hA d (by simp [keys0]))]
  all_goals rfl
omit [Dr] in
theorem Same.mapM1 (h : Same K e e') : ∀ {l : List AV}, (∀ B ∈ l, ∀ d ∈ keys0 B, d ∈ K) → l.mapM e'.view1 = l.mapM e.view1
  | [], _ => rfl
  | B :: l, hA => by
    rw [List.mapM_cons, List.mapM_cons, h.view1 (hA B List.mem_cons_self), Same.mapM1 h (fun C hC => hA C (List.mem_cons_of_mem _ hC))]
omit [Dr] in
theorem keys0_sub {A : AV} {d : Nat} (h : d ∈ keys0 A) : d ∈ keys1 A := by cases A <;> first | exact h | (cases h; done)
omit [Dr] in
theorem Same.view (h : Same K e e') {A : AV} (hA : ∀ d ∈ keys1 A, d ∈ K) : e'.view A = e.view A := by
  cases A
  case agg l =>
    have := h.mapM1 (l := l) (fun B hB d hd => hA d (List.mem_flatMap.2 ⟨B, hB, hd⟩))
    simp only [Env.view, this]
  case el l => rfl
  all_goals (have h1 := h.view1 (fun d hd => hA d (keys0_sub hd)); simp only [Env.view, h1])
omit [Dr] in
theorem Same.elems (h : Same K e e') {A : AV} (hA : ∀ d ∈ keys0 A, d ∈ K) : e'.elems A = e.elems A := by
  cases A
  case ref d g v q j => simp only [Env.elems, h.cellR (hA d (by simp [keys0]))]
  all_goals rfl
omit [Dr] in
theorem Same.lent (h : Same K e e') (m : Md) {A : AV} (hA : ∀ d ∈ keys0 A, d ∈ K) : e'.lent m A = e.lent m A := by
  cases A
  case ref d g v q j => simp only [Env.lent, h.cellR (hA d (by simp [keys0]))]
  case ptr d g v q j => simp only [Env.lent, h.cellsP (hA d (by simp [keys0]))]
  all_goals rfl
omit [Dr] in
theorem keys1_sub {A : AV} {d : Nat} (h : d ∈ keys1 A) : d ∈ keysA A := by cases A <;> first | exact h | (simp [keys1, keys0] at h; done)
omit [Dr] in
theorem Same.argV (h : Same K e e') (m : Md) {A : AV} (hA : ∀ d ∈ keys1 A, d ∈ K) : e'.argV m A = e.argV m A := by
  simp only [Env.argV, h.lent m (fun d hd => hA d (keys0_sub hd)), h.view hA]
omit [Dr] in
theorem Same.argsV (h : Same K e e') : ∀ (ms : List Md) {As : List AV}, (∀ A ∈ As, ∀ d ∈ keys1 A, d ∈ K) → e'.argsV ms As = e.argsV ms As
  | [], [], _ => rfl
  | [], _ :: _, _ => rfl
  | _ :: _, [], _ => rfl
  | m :: ms, A :: As, hA => by
    simp only [Env.argsV, h.argV m (hA A List.mem_cons_self), Same.argsV h ms (fun B hB => hA B (List.mem_cons_of_mem _ hB))]
/-! ### Calls -/
omit [Dr] in
theorem roRefs_keys : ∀ {ms : List Md} {As : List AV}, (∀ A ∈ As, ∀ d ∈ keys1 A, d ∈ K) → ∀ B ∈ roRefs ms As, ∀ d ∈ keys0 B, d ∈ K
  | [], As, _, B, hB => by cases As <;> simp [roRefs] at hB
  | _ :: _, [], _, B, hB => by simp [roRefs] at hB
  | m :: ms, A :: As, h, B, hB => by
    simp only [roRefs] at hB
    rcases List.mem_append.1 hB with hB | hB
    · by_cases hl : lends m A = true
      · rw [if_pos hl] at hB; cases hB
      · rw [if_neg hl] at hB
        intro d hd
        cases A <;> simp only [refsOf, List.mem_singleton, List.not_mem_nil] at hB
        · rename_i l
          exact h _ List.mem_cons_self d (List.mem_flatMap.2 ⟨B, (List.mem_filter.1 hB).1, hd⟩)
        · subst hB
          exact h _ List.mem_cons_self d hd
    · exact roRefs_keys (fun A hA => h A (List.mem_cons_of_mem _ hA)) B hB
omit [Dr] in
theorem lentOf_mem : ∀ {ms : List Md} {As : List AV} {B : AV}, B ∈ lentOf ms As → B ∈ As
  | [], As, B, hB => by cases As <;> simp [lentOf] at hB
  | _ :: _, [], B, hB => by simp [lentOf] at hB
  | m :: ms, A :: As, B, hB => by
    simp only [lentOf] at hB
    rcases List.mem_append.1 hB with hB | hB
    · by_cases hl : lends m A = true
      · rw [if_pos hl] at hB; rw [List.mem_singleton.1 hB]; exact List.mem_cons_self
      · rw [if_neg hl] at hB; cases hB
    · exact List.mem_cons_of_mem _ (lentOf_mem hB)
omit [Dr] in
theorem loc_empties : ∀ {ds : List Nat} {e : Env}, (∀ d ∈ ds, d ∈ K) → LocE K (fun e => e.empties ds) e
  | [], e, _ => fun e1 h1 => by
    cases h1
    exact ⟨.refl, fun e' hs => ⟨e', rfl, .refl, hs⟩⟩
  | d :: ds, e, hd => fun e1 h1 => by
    simp only [Env.empties] at h1
    have hdK := hd d List.mem_cons_self
    cases ho : e.objs[d]? with
    | none => simp [ho] at h1
    | some o =>
      simp only [ho] at h1
      cases hk : o.k <;> simp only [hk] at h1 <;> try (cases h1; done)
      rename_i l
      obtain ⟨b1, b2⟩ := loc_empties (e := e.setObj d (emptied o l)) (fun d' hd' => hd d' (List.mem_cons_of_mem _ hd')) e1 h1
      refine ⟨(Upd.setObj hdK _).trans b1, fun e' hs => ?_⟩
      obtain ⟨e3', d1, d2, d3⟩ := b2 _ (hs.setObj d (emptied o l))
      exact ⟨e3', by simp only at d1; simp only [Env.empties, hs.at_ d hdK, ho, hk, d1], (Upd.setObj hdK _).trans d2, d3⟩
omit [Dr] in
theorem loc_giveRow {A out : AV} (hA : ∀ d ∈ keys0 A, d ∈ K) : LocE K (fun e => e.giveRow A out) e := by
  intro e1 h1
  cases A
  case ref d g v q j =>
    have hd : d ∈ K := hA d (by simp [keys0])
    simp only [Env.giveRow] at h1
    cases hc : e.cellR d g v q j with
    | none => simp [hc] at h1
    | some C =>
      cases C <;> simp only [hc] at h1 <;> try (cases h1; done)
      rename_i E c r
      by_cases hf : fitsBack E c r out = true
      case neg => rw [if_neg hf] at h1; cases h1
      rw [if_pos hf] at h1
      cases ho : e.objs[d]? with
      | none => simp [ho] at h1
      | some o =>
        simp only [ho] at h1
        cases hl : o.k.cells with
        | none => simp [hl] at h1
        | some l =>
          simp only [hl, Option.some.injEq] at h1
          subst h1
          exact ⟨.setObj hd _, fun e' hs => ⟨_, by simp only [Env.giveRow, hs.cellR hd, hc]; rw [if_pos hf]; simp only [hs.at_ d hd, ho, hl], .setObj hd _, hs.setObj _ _⟩⟩
  all_goals
    cases h1
    exact ⟨.refl, fun e' hs => ⟨e', rfl, .refl, hs⟩⟩
omit [Dr] in
theorem loc_giveRows : ∀ {ls outs : List AV} {e : Env}, (∀ A ∈ ls, ∀ d ∈ keys0 A, d ∈ K) → LocE K (fun e => e.giveRows ls outs) e
  | [], [], e, _ => fun e1 h1 => by
    cases h1
    exact ⟨.refl, fun e' hs => ⟨e', rfl, .refl, hs⟩⟩
  | [], _ :: _, e, _ => fun e1 h1 => by cases h1
  | _ :: _, [], e, _ => fun e1 h1 => by cases h1
  | A :: ls, out :: outs, e, hA => fun e1 h1 => by
    simp only [Env.giveRows] at h1
    cases ht : e.giveRow A out with
    | none => simp [ht] at h1
    | some e2 =>
      simp only [ht] at h1
      obtain ⟨a1, a2⟩ := loc_giveRow (hA A List.mem_cons_self) e2 ht
      obtain ⟨b1, b2⟩ := loc_giveRows (e := e2) (fun B hB => hA B (List.mem_cons_of_mem _ hB)) e1 h1
      refine ⟨a1.trans b1, fun e' hs => ?_⟩
      obtain ⟨e2', c1, c2, c3⟩ := a2 e' hs
      obtain ⟨e3', d1, d2, d3⟩ := b2 e2' c3
      exact ⟨e3', by simp only at c1 d1; simp only [Env.giveRows, c1, d1], c2.trans d2, d3⟩
omit [Dr] in
theorem loc_fill1 {A out : AV} (hA : ∀ d ∈ keys0 A, d ∈ K) : LocE K (fun e => e.fill1 A out) e := by
  intro e1 h1
  cases A
  case ptr d g v q j =>
    have hd : d ∈ K := hA d (by simp [keys0])
    simp only [Env.fill1] at h1
    cases out <;> simp only at h1 <;> try (cases h1; done)
    rename_i l
    cases ho : e.objs[d]? with
    | none => simp [ho] at h1
    | some o =>
      simp only [ho] at h1
      cases hk : o.k <;> simp only [hk] at h1 <;> try (cases h1; done)
      rename_i l0
      by_cases hl : l.length = l0.length
      case neg => rw [if_neg hl] at h1; cases h1
      rw [if_pos hl] at h1
      cases h1
      exact ⟨.setObj hd _, fun e' hs => ⟨_, by simp only [Env.fill1, hs.at_ d hd, ho, hk]; rw [if_pos hl], .setObj hd _, hs.setObj _ _⟩⟩
  all_goals
    cases h1
    exact ⟨.refl, fun e' hs => ⟨e', rfl, .refl, hs⟩⟩
omit [Dr] in
theorem loc_fills : ∀ {ls outs : List AV} {e : Env}, (∀ A ∈ ls, ∀ d ∈ keys0 A, d ∈ K) → LocE K (fun e => e.fills ls outs) e
  | [], [], e, _ => fun e1 h1 => by
    cases h1
    exact ⟨.refl, fun e' hs => ⟨e', rfl, .refl, hs⟩⟩
  | [], _ :: _, e, _ => fun e1 h1 => by cases h1
  | _ :: _, [], e, _ => fun e1 h1 => by cases h1
  | A :: ls, out :: outs, e, hA => fun e1 h1 => by
    simp only [Env.fills] at h1
    cases ht : e.fill1 A out with
    | none => simp [ht] at h1
    | some e2 =>
      simp only [ht] at h1
      obtain ⟨a1, a2⟩ := loc_fill1 (hA A List.mem_cons_self) e2 ht
      obtain ⟨b1, b2⟩ := loc_fills (e := e2) (fun B hB => hA B (List.mem_cons_of_mem _ hB)) e1 h1
      refine ⟨a1.trans b1, fun e' hs => ?_⟩
      obtain ⟨e2', c1, c2, c3⟩ := a2 e' hs
      obtain ⟨e3', d1, d2, d3⟩ := b2 e2' c3
      exact ⟨e3', by simp only at c1 d1; simp only [Env.fills, c1, d1], c2.trans d2, d3⟩
/-! ### What is put -/
def Env.putO (e : Env) (dst : Option Nat) : Option AV → Env
  | some A => e.put dst A
  | none => e
def LocP (K W : List Nat) (dst : Option Nat) (F : Env → Option Env) (e : Env) : Prop := ∀ e1, F e = some e1 → ∃ B e0, Upd W e e0 ∧ e1 = e0.putO dst B ∧ ∀ e', Same K e e' → ∃ e0', F e' = some (e0'.putO dst B) ∧ Upd W e' e0' ∧ ∀ d ∈ W, e0'.objs[d]? = e0.objs[d]?
omit [Dr] in
theorem LocP.of (dst : Option Nat) {F : Env → Option Env} (h : LocE K F e) : LocP K K dst F e := fun e1 h1 => by
  obtain ⟨a1, a2⟩ := h e1 h1
  refine ⟨none, e1, a1, rfl, fun e' hs => ?_⟩
  obtain ⟨e1', b1, b2, b3⟩ := a2 e' hs
  exact ⟨e1', b1, b2, b3.at_⟩
omit [Dr] in
/-- Read alone, and put. -/
theorem LocP.put {dst : Option Nat} {F : Env → Option Env} {A : AV} (h : F e = some (e.put dst A)) (h' : ∀ e', Same K e e' → F e' = some (e'.put dst A)) : LocP K [] dst F e := fun e1 h1 => by
  rw [h] at h1
  cases h1
  exact ⟨some A, e, .refl, rfl, fun e' hs => ⟨e', h' e' hs, .refl, fun d hd => by cases hd⟩⟩
omit [Dr] in
theorem LocP.putW {dst : Option Nat} {F : Env → Option Env} {A : AV} (h : F e = some (e.put dst A)) (h' : ∀ e', Same K e e' → F e' = some (e'.put dst A)) : LocP K K dst F e := fun e1 h1 => by
  rw [h] at h1
  cases h1
  exact ⟨some A, e, .refl, rfl, fun e' hs => ⟨e', h' e' hs, .refl, hs.at_⟩⟩
omit [Dr] in
/-- A step, and then another one. -/
theorem LocP.step {dst : Option Nat} {F H : Env → Option Env} {e1 : Env} (hF : LocE K F e) (h1 : F e = some e1) (hH : LocP K K dst H e1) {F' : Env → Option Env} (heq : ∀ e e1, F e = some e1 → F' e = H e1) : LocP K K dst F' e := fun e2 h2 => by
  obtain ⟨a1, a2⟩ := hF e1 h1
  rw [heq e e1 h1] at h2
  obtain ⟨B, e0, b1, b2, b3⟩ := hH e2 h2
  refine ⟨B, e0, a1.trans b1, b2, fun e' hs => ?_⟩
  obtain ⟨e1', c1, c2, c3⟩ := a2 e' hs
  obtain ⟨e0', d1, d2, d3⟩ := b3 e1' c3
  exact ⟨e0', by rw [heq e' e1' c1]; exact d1, c2.trans d2, d3⟩
omit [Dr] in
theorem LocP.stepA {α : Type} {dst : Option Nat} {F : Env → Option (α × Env)} {H : Env → Option Env} {x : α} {e1 : Env} (hF : Loc K F e) (h1 : F e = some (x, e1)) (hH : LocP K K dst H e1) {F' : Env → Option Env} (heq : ∀ e e1, F e = some (x, e1) → F' e = H e1) : LocP K K dst F' e := fun e2 h2 => by
  obtain ⟨a1, a2⟩ := hF x e1 h1
  rw [heq e e1 h1] at h2
  obtain ⟨B, e0, b1, b2, b3⟩ := hH e2 h2
  refine ⟨B, e0, a1.trans b1, b2, fun e' hs => ?_⟩
  obtain ⟨e1', c1, c2, c3⟩ := a2 e' hs
  obtain ⟨e0', d1, d2, d3⟩ := b3 e1' c3
  exact ⟨e0', by rw [heq e' e1' c1]; exact d1, c2.trans d2, d3⟩
omit [Dr] in
/-- A step, and what is put behind it. -/
theorem LocP.makePut {d n : Nat} {k : OK} (hd : d ∈ K) {B : AV} {A : Nat → AV} {F' : Env → Option Env} (hA : A (e.gen d) = B)
    (heq : ∀ e, F' e = match e.make d n k with
      | some e1 => some (e1.put (some d) (A (e.gen d)))
      | none => none) : LocP K K (some d) F' e := fun e2 h2 => by
  rw [heq] at h2
  cases hm : e.make d n k with
  | none => simp [hm] at h2
  | some e1 =>
    simp only [hm, Option.some.injEq] at h2
    obtain ⟨a1, a2⟩ := loc_make hd n k e1 hm
    refine ⟨some B, e1, a1, by rw [← h2, hA]; rfl, fun e' hs => ?_⟩
    obtain ⟨e1', c1, c2, c3⟩ := a2 e' hs
    simp only at c1
    exact ⟨e1', by rw [heq, c1, hs.gen hd, hA]; rfl, c2, c3.at_⟩
omit [Dr] in
theorem loc_newRow {d : Nat} (hd : d ∈ K) (E c : Nat) (l : List (List AV)) : LocP K K (some d) (fun e => e.newRow (some d) E c l) e :=
  LocP.makePut (A := fun g => .ref d (g + 1) 0 [] 0) hd rfl (fun e => rfl)
omit [Dr] in
theorem loc_newBox {d : Nat} (hd : d ∈ K) (l : List AV) : LocP K K (some d) (fun e => e.newBox (some d) l) e :=
  LocP.makePut (A := fun g => .ptr d (g + 1) 0 [] 0) hd rfl (fun e => rfl)
omit [Dr] in
theorem LocP.none {dst : Option Nat} {F : Env → Option Env} (h : F e = .none) : LocP K K dst F e := fun e1 h1 => by rw [h] at h1; cases h1
omit [Dr] in
theorem loc_install {dst : Option Nat} (hd : ∀ d, dst = some d → d ∈ K) (A : AV) : LocP K K dst (fun e => e.install dst A) e := by
  cases dst with
  | none => exact LocP.of none (F := fun e => some e) (fun e1 h1 => by cases h1; exact ⟨.refl, fun e' hs => ⟨e', rfl, .refl, hs⟩⟩)
  | some d =>
    have hdK := hd d rfl
    cases hb : bxOf A with
    | some l =>
      by_cases hr : rowsOf A = []
      · refine LocP.makePut (A := fun g => nameB d (g + 1) A) (n := l.length) (k := .box l) hdK rfl (fun e => ?_)
        simp only [Env.install, hb]; rw [if_pos hr]
        cases e.make d l.length (.box l) <;> rfl
      · exact LocP.none (by simp only [Env.install, hb]; rw [if_neg hr])
    | none =>
      by_cases hr : rowsOf A = []
      · exact LocP.putW (A := A) (by simp only [Env.install, hb]; rw [if_pos hr]) (fun e' _ => by simp only [Env.install, hb]; rw [if_pos hr])
      · by_cases hall : (rowsOf A).all AV.isRow = true
        · refine LocP.makePut (A := fun g => nameR d (g + 1) A) (n := (rowsOf A).length) (k := .val (rowsOf A)) hdK rfl (fun e => ?_)
          simp only [Env.install, hb]; rw [if_neg hr, if_pos hall]
          cases e.make d (rowsOf A).length (.val (rowsOf A)) <;> rfl
        · exact LocP.none (by simp only [Env.install, hb]; rw [if_neg hr, if_neg hall])
omit [Dr] in
theorem loc_call {R : Nat → List AV → Option AV} {dst : Option Nat} (hd : ∀ d, dst = some d → d ∈ K) (f : Nat) (ms : List Md) {As : List AV} (hA : ∀ A ∈ As, ∀ d ∈ keys1 A, d ∈ K) : LocP K K dst (fun e => callA R e dst f ms As) e := by
  have hro := roRefs_keys (ms := ms) hA
  have hls : ∀ A ∈ lentOf ms As, ∀ d ∈ keys0 A, d ∈ K := fun A hA' d hd' => hA A (lentOf_mem hA') d (keys0_sub hd')
  have hpk : ∀ d ∈ ptrKeys (lentOf ms As), d ∈ K := fun d hd' => by
    obtain ⟨g, v, q, j, hm⟩ := mem_ptrKeys.1 hd'
    exact hls _ hm d (by simp [keys0])
  cases he1 : e.freezes (roRefs ms As) with
  | none => exact LocP.none (by simp only [callA, he1])
  | some e1 =>
    cases hBs : e1.argsV ms As with
    | none => exact LocP.none (by simp only [callA, he1, hBs])
    | some Bs =>
      intro e2 h2
      obtain ⟨a1, a2⟩ := loc_freezes (K := K) hro e1 he1
      simp only [callA, he1, hBs] at h2
      -- the same beginning
      have beg : ∀ e', Same K e e' → ∃ e1', e'.freezes (roRefs ms As) = some e1' ∧ Upd K e' e1' ∧ Same K e1 e1' ∧ e1'.argsV ms As = some Bs := fun e' hs => by
        obtain ⟨e1', c1, c2, c3⟩ := a2 e' hs
        exact ⟨e1', c1, c2, c3, by rw [c3.argsV ms hA]; exact hBs⟩
      split at h2
      · rename_i hl
        cases hr : R f Bs with
        | none => simp [hr] at h2
        | some A =>
          have h3 : (if A.free = true then e else e1).install dst A = some e2 := by
            rw [hr] at h2
            cases A <;> first | (simp only at h2; cases h2; done) | exact h2
          by_cases hf : A.free = true
          · rw [if_pos hf] at h3
            obtain ⟨B, e0, b1, b2, b3⟩ := loc_install (K := K) hd A e2 h3
            refine ⟨B, e0, b1, b2, fun e' hs => ?_⟩
            obtain ⟨e1', c1, c2, c3, c4⟩ := beg e' hs
            obtain ⟨e0', d1, d2, d3⟩ := b3 e' hs
            refine ⟨e0', ?_, d2, d3⟩
            have d1' : (if A.free = true then e' else e1').install dst A = some (e0'.putO dst B) := by rw [if_pos hf]; exact d1
            simp only [callA, c1, c4, hl, hr]
            cases A <;> first | (rw [hr] at h2; simp only at h2; cases h2; done) | exact d1'
          · rw [if_neg hf] at h3
            obtain ⟨B, e0, b1, b2, b3⟩ := loc_install (K := K) hd A e2 h3
            refine ⟨B, e0, a1.trans b1, b2, fun e' hs => ?_⟩
            obtain ⟨e1', c1, c2, c3, c4⟩ := beg e' hs
            obtain ⟨e0', d1, d2, d3⟩ := b3 e1' c3
            refine ⟨e0', ?_, c2.trans d2, d3⟩
            have d1' : (if A.free = true then e' else e1').install dst A = some (e0'.putO dst B) := by rw [if_neg hf]; exact d1
            simp only [callA, c1, c4, hl, hr]
            cases A <;> first | (rw [hr] at h2; simp only at h2; cases h2; done) | exact d1'
      · rename_i hne
        split at h2
        case isFalse => cases h2
        rename_i hdis
        cases he2 : e1.empties (ptrKeys (lentOf ms As)) with
        | none => simp [he2] at h2
        | some e3 =>
          simp only [he2] at h2
          cases hr : R f Bs with
          | none => simp [hr] at h2
          | some r =>
            cases r <;> simp only [hr] at h2 <;> try (cases h2; done)
            rename_i A outs
            by_cases hb : (bxOf A).isNone = true
            case neg => rw [if_neg hb] at h2; cases h2
            rw [if_pos hb] at h2
            cases he3 : e3.giveRows (lentOf ms As) outs with
            | none => simp [he3] at h2
            | some e4 =>
              simp only [he3] at h2
              cases he4 : e4.fills (lentOf ms As) outs with
              | none => simp [he4] at h2
              | some e5 =>
                simp only [he4] at h2
                obtain ⟨p1, p2⟩ := loc_empties (K := K) hpk e3 he2
                obtain ⟨q1, q2⟩ := loc_giveRows (K := K) hls e4 he3
                obtain ⟨r1, r2⟩ := loc_fills (K := K) hls e5 he4
                obtain ⟨B, e0, b1, b2, b3⟩ := loc_install (K := K) hd A e2 h2
                refine ⟨B, e0, (((a1.trans p1).trans q1).trans r1).trans b1, b2, fun e' hs => ?_⟩
                obtain ⟨e1', c1, c2, c3, c4⟩ := beg e' hs
                obtain ⟨e3', s1, s2, s3⟩ := p2 e1' c3
                obtain ⟨e4', t1, t2, t3⟩ := q2 e3' s3
                obtain ⟨e5', u1, u2, u3⟩ := r2 e4' t3
                obtain ⟨e0', d1, d2, d3⟩ := b3 e5' u3
                refine ⟨e0', ?_, (((c2.trans s2).trans t2).trans u2).trans d2, d3⟩
                simp only at c1 s1 t1 u1 d1
                obtain ⟨X, Y, hq⟩ := List.exists_cons_of_ne_nil hne
                rw [hq] at hdis s1 t1 u1
                simp only [callA, c1, c4, hq]
                rw [if_pos hdis]
                simp only [s1, hr]
                rw [if_pos hb]
                simp only [t1, u1, d1]
end
end Go.Nv
/- BY VALUE, with trees. Part 40: what each operation looks at. -/
namespace Go.Nv
variable [Dr]
def O.xs : O → List X
  | .mv x => [x]
  | .pick c a b => [c, a, b]
  | .box x => [x]
  | .new _ => []
  | .bld _ ps => ps.map fun p => p.2.2
  | .lit _ _ xs => xs
  | .ld _ p => [p]
  | .st _ p x => [p, x]
  | .fa _ _ p => [p]
  | .ia _ x i => [x, i]
  | .ix x i => [x, i]
  | .subs x lo hi => x :: (lo.toList ++ hi.toList)
  | .sub _ x lo hi => x :: (lo.toList ++ hi.toList)
  | .mk _ _ _ _ n => [n]
  | .bin _ x y => [x, y]
  | .beq _ x y => [x, y]
  | .eqs _ _ x y => [x, y]
  | .un _ x => [x]
  | .cvi _ x => [x]
  | .cvs x => [x]
  | .cvsb _ x => [x]
  | .cvbs x => [x]
  | .lens x => [x]
  | .len x => [x]
  | .app _ _ _ s x => [s, x]
  | .apps _ s x => [s, x]
  | .cpy _ _ _ x => [x]
  | .mnx _ x y => [x, y]
  | .ext x _ => [x]
  | .call _ _ xs => xs
  | .nck x => [x]
  | .clo _ xs => xs
  | .clof _ xs => xs
  | .calld x xs => x :: xs
  | .mkm => []
  | .mset _ m k v => [m, k, v]
  | .lkp _ _ _ m k => [m, k]
  | .isn _ _ x => [x]
/-- 0: it looks at temporaries alone; 1: it reads; 2: it turns something, too. -/
def O.cls : O → Nat
  | .ld .. => 1
  | .ia .. => 1
  | .len .. => 1
  | .cvbs .. => 1
  | .lkp .. => 1
  | .isn p _ _ => if p = true then 0 else 1
  | .box .. => 2
  | .new .. => 2
  | .st .. => 2
  | .mk .. => 2
  | .lit .. => 2
  | .app .. => 2
  | .apps .. => 2
  | .cpy .. => 2
  | .sub .. => 2
  | .call .. => 2
  | .calld .. => 2
  | .mkm => 2
  | .mset .. => 2
  | .clof .. => 2
  | _ => 0
def ks (e : Env) (xs : List X) : List Nat := xs.flatMap fun x => keysA (e.get x)
/-- What it looks at, and what it may turn. -/
def O.keys (o : O) (e : Env) (dst : Option Nat) : List Nat := if o.cls = 0 then [] else if o.cls = 1 then ks e o.xs else dst.toList ++ ks e o.xs
def O.wr (o : O) (e : Env) (dst : Option Nat) : List Nat := if o.cls = 2 then dst.toList ++ ks e o.xs else []
omit [Dr] in
theorem wr_sub {o : O} {e : Env} {dst : Option Nat} {d : Nat} (h : d ∈ o.wr e dst) : d ∈ o.keys e dst := by
  unfold O.wr at h
  split at h
  · rename_i hc
    unfold O.keys
    rw [if_neg (by omega), if_neg (by omega)]; exact h
  · cases h
section
variable {R : Nat → List AV → Option AV} {e e1 : Env} {dst : Option Nat} {o : O}
def OpLoc (R : Nat → List AV → Option AV) (e : Env) (dst : Option Nat) (o : O) (K W : List Nat) : Prop := ∀ e1, evalO R e dst o = some e1 → ∃ B e0, Upd W e e0 ∧ e1 = e0.putO dst B ∧
  ∀ e', (∀ x ∈ o.xs, e'.get x = e.get x) → Same K e e' → ∃ e0', evalO R e' dst o = some (e0'.putO dst B) ∧ Upd W e' e0' ∧ ∀ d ∈ W, e0'.objs[d]? = e0.objs[d]?
omit [Dr] in
theorem OpLoc.of {K W : List Nat} {F : Env → Option Env} (hF : ∀ e', (∀ x ∈ o.xs, e'.get x = e.get x) → evalO R e' dst o = F e') (hL : LocP K W dst F e) : OpLoc R e dst o K W := fun e1 h1 => by
  rw [hF e (fun _ _ => rfl)] at h1
  obtain ⟨B, e0, a1, a2, a3⟩ := hL e1 h1
  exact ⟨B, e0, a1, a2, fun e' hg hs => by
    obtain ⟨e0', b1, b2⟩ := a3 e' hs
    exact ⟨e0', by rw [hF e' hg]; exact b1, b2⟩⟩
omit [Dr] in
/-- What gives a value alone. -/
theorem OpLoc.act {K : List Nat} (hE : ∀ e, evalO R e dst o = (match act e o with
    | some A => some (e.put dst A)
    | none => none)) (hA : ∀ e', (∀ x ∈ o.xs, e'.get x = e.get x) → Same K e e' → act e' o = act e o) : OpLoc R e dst o K [] := fun e1 h1 => by
  rw [hE] at h1
  cases ha : Nv.act e o with
  | none => simp [ha] at h1
  | some A =>
    simp only [ha, Option.some.injEq] at h1
    subst h1
    exact ⟨some A, e, .refl, rfl, fun e' hg hs => ⟨e', by rw [hE, hA e' hg hs, ha]; rfl, .refl, fun d hd => by cases hd⟩⟩
omit [Dr] in
theorem fillT_same {e e' : Env} : ∀ {ps : List (Nat × Nat × X)} {z : List AV}, (∀ x ∈ ps.map (fun p => p.2.2), e'.get x = e.get x) → fillT e' z ps = fillT e z ps
  | [], z, _ => rfl
  | (off, n, x) :: ps, z, h => by
    simp only [fillT, h x (by simp)]
    cases partsT (e.get x) with
    | none => rfl
    | some l =>
      simp only
      split
      · exact fillT_same (fun y hy => h y (by simp only [List.map_cons, List.mem_cons]; exact .inr hy))
      · rfl
omit [Dr] in
theorem litParts_same {e e' : Env} {c : Nat} : ∀ {xs : List X}, (∀ x ∈ xs, e'.get x = e.get x) → litParts e' c xs = litParts e c xs
  | [], _ => rfl
  | x :: xs, h => by
    simp only [litParts, h x List.mem_cons_self, litParts_same (fun y hy => h y (List.mem_cons_of_mem _ hy))]
omit [Dr] in
theorem expos_same {K : List Nat} {e e' : Env} (h : Same K e e') {d : Nat} (hd : d ∈ K) (g : Nat) (q : Path) : ∀ (l : List AV) (j : Nat), expos e' d g q l j = expos e d g q l j
  | [], j => rfl
  | A :: l, j => by simp only [expos, h.verOf hd, expos_same h hd g q l]
omit [Dr] in
theorem map_same {e e' : Env} {xs : List X} (h : ∀ x ∈ xs, e'.get x = e.get x) : xs.map e'.get = xs.map e.get := List.map_congr_left h
omit [Dr] in
theorem opt_same {e e' : Env} {lo : Option X} (h : ∀ x ∈ lo.toList, e'.get x = e.get x) : lo.map e'.get = lo.map e.get := by
  cases lo with
  | none => rfl
  | some x => simp only [Option.map_some, h x (by simp)]
omit [Dr] in
theorem mem_ks {xs : List X} {x : X} (hx : x ∈ xs) {d : Nat} (hd : d ∈ keysA (e.get x)) : d ∈ ks e xs := List.mem_flatMap.2 ⟨x, hx, hd⟩
omit [Dr] in
theorem grab_loc {K : List Nat} {A : AV} (hA : ∀ d ∈ keys0 A, d ∈ K) : Loc K (fun e => e.grab A) e := by
  intro x e1 h1
  cases A
  case ref d g v q j =>
    have hd : d ∈ K := hA d (by simp [keys0])
    simp only [Env.grab] at h1
    cases hc : e.cellR d g v q j with
    | none => simp [hc] at h1
    | some C =>
      cases C <;> simp only [hc] at h1 <;> try (cases h1; done)
      · cases h1
        exact ⟨.refl, fun e' hs => ⟨e', by simp only [Env.grab, hs.cellR hd, hc], .refl, hs⟩⟩
      · rename_i E c m
        by_cases hp : allPure m = true
        · rw [if_pos hp] at h1
          cases h1
          exact ⟨.refl, fun e' hs => ⟨e', by simp only [Env.grab, hs.cellR hd, hc]; rw [if_pos hp], .refl, hs⟩⟩
        · rw [if_neg hp] at h1
          by_cases hw : allWhole m = true
          case neg => rw [if_neg hw] at h1; cases h1
          rw [if_pos hw] at h1
          cases ht : e.take1 (.ref d g v q j) with
          | none => simp [ht] at h1
          | some r =>
            obtain ⟨B, e2⟩ := r
            simp only [ht, Option.some.injEq, Prod.mk.injEq] at h1
            obtain ⟨rfl, rfl⟩ := h1
            obtain ⟨r1, r2⟩ := loc_take1 hA B e2 ht
            refine ⟨r1, fun e' hs => ?_⟩
            obtain ⟨e1', s1, s2, s3⟩ := r2 e' hs
            simp only at s1
            exact ⟨e1', by simp only [Env.grab, hs.cellR hd, hc]; rw [if_neg hp, if_pos hw]; simp only [s1], s2, s3⟩
  case nil =>
    cases h1
    exact ⟨.refl, fun e' hs => ⟨e', rfl, .refl, hs⟩⟩
  case sl l =>
    cases h1
    exact ⟨.refl, fun e' hs => ⟨e', rfl, .refl, hs⟩⟩
  all_goals cases h1
omit [Dr] in
theorem newRow_loc {K : List Nat} (hd : ∀ d, dst = some d → d ∈ K) (E c : Nat) (l : List (List AV)) : LocP K K dst (fun e => e.newRow dst E c l) e := by
  cases dst with
  | none => exact LocP.none rfl
  | some d => exact loc_newRow (hd d rfl) E c l
omit [Dr] in
theorem newBox_loc {K : List Nat} (hd : ∀ d, dst = some d → d ∈ K) (l : List AV) : LocP K K dst (fun e => e.newBox dst l) e := by
  cases dst with
  | none => exact LocP.none rfl
  | some d => exact loc_newBox (hd d rfl) l
omit [Dr] in
theorem app_loc {K : List Nat} (hd : ∀ d, dst = some d → d ∈ K) (E c by_ : Nat) {s x : AV} (hs : ∀ d ∈ keys0 s, d ∈ K) (hx : ∀ d ∈ keys0 x, d ∈ K) : LocP K K dst (fun e => appendA e dst E c by_ s x) e := by
  have go : ∀ (l : List (List AV)) (e : Env), LocP K K dst (fun e1 => match e1.grab x with
    | some (m, e2) => if (l.length + m.length) * by_ ≤ 140737488355328 ∧ m.all (fun y => y.length == c) = true then e2.newRow dst E c (l ++ m) else none
    | none => none) e := by
    intro l e
    cases hg : e.grab x with
    | none => exact LocP.none (by simp only [hg])
    | some r =>
      obtain ⟨m, e2⟩ := r
      by_cases hb : (l.length + m.length) * by_ ≤ 140737488355328 ∧ m.all (fun y => y.length == c) = true
      · exact LocP.stepA (H := fun e2 => e2.newRow dst E c (l ++ m)) (grab_loc hx) hg (newRow_loc hd E c (l ++ m)) (fun e e1 h1 => by simp only [h1]; rw [if_pos hb])
      · exact LocP.none (by simp only [hg]; rw [if_neg hb])
  cases s
  case nil => exact go [] e
  case ref d g v q j =>
    cases ht : e.take1 (.ref d g v q j) with
    | none => exact LocP.none (by simp only [appendA, ht])
    | some r =>
      obtain ⟨B, e1⟩ := r
      cases B
      case row E' c' l =>
        by_cases hec : E' = E ∧ c' = c
        · exact LocP.stepA (loc_take1 hs) ht (go l e1) (fun e e1 h1 => by simp only [appendA, h1, if_pos hec]; rfl)
        · exact LocP.none (by simp only [appendA, ht]; rw [if_neg hec])
      all_goals exact LocP.none (by simp only [appendA, ht])
  all_goals exact LocP.none rfl
omit [Dr] in
theorem store_loc {K : List Nat} {n : Nat} {p x : AV} (hp : ∀ d ∈ keys0 p, d ∈ K) (hx : ∀ d ∈ keys1 x, d ∈ K) : LocE K (fun e => storeA e n p x) e := by
  intro e1 h1
  simp only [storeA] at h1
  cases hl : partsT x with
  | none => simp [hl] at h1
  | some l =>
    simp only [hl] at h1
    have hlk : ∀ A ∈ l, ∀ d ∈ keys0 A, d ∈ K := fun A hA d hd => by
      cases x <;> simp only [partsT] at hl
      case agg m => cases hl; exact hx d (List.mem_flatMap.2 ⟨A, hA, hd⟩)
      all_goals
        split at hl
        · cases hl
          rw [List.mem_singleton.1 hA] at hd
          exact hx d (keys0_sub hd)
        · cases hl
    cases ht : e.takes l with
    | none => simp [ht] at h1
    | some r =>
      obtain ⟨ps, e2⟩ := r
      simp only [ht] at h1
      obtain ⟨a1, a2⟩ := loc_takes (K := K) hlk ps e2 ht
      cases p
      case ptr d g v q j =>
        have hd : d ∈ K := hp d (by simp [keys0])
        simp only at h1
        cases hc : e2.cellsP d g v q with
        | none => simp [hc] at h1
        | some m =>
          simp only [hc] at h1
          by_cases hb : 0 < n ∧ ps.length = n ∧ j + n ≤ m.length
          case neg => rw [if_neg hb] at h1; cases h1
          rw [if_pos hb] at h1
          obtain ⟨b1, b2⟩ := loc_turn hd _ _ _ e1 h1
          refine ⟨a1.trans b1, fun e' hs => ?_⟩
          obtain ⟨e2', c1, c2, c3⟩ := a2 e' hs
          obtain ⟨e1', d1, d2, d3⟩ := b2 e2' c3
          simp only at c1 d1
          exact ⟨e1', by simp only [storeA, hl, c1, c3.cellsP hd, hc]; rw [if_pos hb]; exact d1, c2.trans d2, d3⟩
      all_goals cases h1
omit [Dr] in
theorem mapSet_loc {K : List Nat} {kd : Option IntKind} {m k v : AV} (hm : ∀ d ∈ keys0 m, d ∈ K) : LocE K (fun e => e.mapSet kd m k v) e := by
  intro e1 h1
  cases m
  case mref d g =>
    have hd : d ∈ K := hm d (by simp [keys0])
    simp only [Env.mapSet] at h1
    cases ho : e.obj d g with
    | none => simp [ho] at h1
    | some ob =>
      simp only [ho] at h1
      cases hk : ob.k <;> simp only [hk] at h1 <;> try (cases h1; done)
      rename_i l
      by_cases hb : keyOk kd k = true ∧ v.pure = true
      case neg => rw [if_neg hb] at h1; cases h1
      rw [if_pos hb] at h1
      cases hg : mapGet k l with
      | none => simp [hg] at h1
      | some r =>
        cases r <;> (
          simp only [hg, Option.some.injEq] at h1
          subst h1
          exact ⟨.setObj hd _, fun e' hs => ⟨_, by simp only [Env.mapSet, hs.obj hd, ho, hk]; rw [if_pos hb]; simp only [hg], .setObj hd _, hs.setObj _ _⟩⟩)
  all_goals cases h1
omit [Dr] in
theorem arr1 {x y : X} {P : X → Prop} (h : ∀ z ∈ [x, y], P z) : P x ∧ P y := ⟨h x (by simp), h y (by simp)⟩
/-- It turns no temporary but its own. -/
def O.loc : O → Bool
  | .clof .. => false
  | _ => true
omit [Dr] in
/-- **Each operation stays among what it looks at.** -/
theorem op_loc (R : Nat → List AV → Option AV) (e : Env) (dst : Option Nat) (o : O) (hloc : o.loc = true) : OpLoc R e dst o (o.keys e dst) (o.wr e dst) := by
  have k0 : ∀ {x : X} {d : Nat}, d ∈ keys0 (e.get x) → d ∈ keysA (e.get x) := fun {x d} h => keys1_sub (keys0_sub h)
  have hD : ∀ (xs : List X) (d : Nat), dst = some d → d ∈ dst.toList ++ ks e xs := fun xs d h => by rw [h]; simp
  have hK : ∀ {xs : List X} {x : X} {d : Nat}, x ∈ xs → d ∈ keysA (e.get x) → d ∈ dst.toList ++ ks e xs := fun {xs x d} hx hd => List.mem_append_right _ (mem_ks hx hd)
  cases o
  case clof f xs => cases hloc
  case mv x => exact .act (fun _ => rfl) (fun e' hg _ => by simp only [Nv.act, hg x (by simp [O.xs])])
  case pick c a b => exact .act (fun _ => rfl) (fun e' hg _ => by simp only [Nv.act, hg c (by simp [O.xs]), hg a (by simp [O.xs]), hg b (by simp [O.xs])])
  case bld z ps => exact .act (fun _ => rfl) (fun e' hg _ => by simp only [Nv.act, fillT_same hg])
  case fa off n p => exact .act (fun _ => rfl) (fun e' hg _ => by simp only [Nv.act, hg p (by simp [O.xs])])
  case ix x i => exact .act (fun _ => rfl) (fun e' hg _ => by simp only [Nv.act, hg x (by simp [O.xs]), hg i (by simp [O.xs])])
  case subs x lo hi => exact .act (fun _ => rfl) (fun e' hg _ => by simp only [Nv.act, hg x (by simp [O.xs]), opt_same (lo := lo) (fun y hy => hg y (by simp only [O.xs, List.mem_cons, List.mem_append]; exact .inr (.inl hy))), opt_same (lo := hi) (fun y hy => hg y (by simp only [O.xs, List.mem_cons, List.mem_append]; exact .inr (.inr hy)))])
  case bin op x y => exact .act (fun _ => rfl) (fun e' hg _ => by simp only [Nv.act, hg x (by simp [O.xs]), hg y (by simp [O.xs])])
  case beq ne x y => exact .act (fun _ => rfl) (fun e' hg _ => by simp only [Nv.act, hg x (by simp [O.xs]), hg y (by simp [O.xs])])
  case eqs ne ks x y => exact .act (fun _ => rfl) (fun e' hg _ => by simp only [Nv.act, hg x (by simp [O.xs]), hg y (by simp [O.xs])])
  case un op x => exact .act (fun _ => rfl) (fun e' hg _ => by simp only [Nv.act, hg x (by simp [O.xs])])
  case cvi k x => exact .act (fun _ => rfl) (fun e' hg _ => by simp only [Nv.act, hg x (by simp [O.xs])])
  case cvs x => exact .act (fun _ => rfl) (fun e' hg _ => by simp only [Nv.act, hg x (by simp [O.xs])])
  case lens x => exact .act (fun _ => rfl) (fun e' hg _ => by simp only [Nv.act, hg x (by simp [O.xs])])
  case mnx mx x y => exact .act (fun _ => rfl) (fun e' hg _ => by simp only [Nv.act, hg x (by simp [O.xs]), hg y (by simp [O.xs])])
  case ext x i => exact .act (fun _ => rfl) (fun e' hg _ => by simp only [Nv.act, hg x (by simp [O.xs])])
  case nck x => exact .act (fun _ => rfl) (fun e' hg _ => by simp only [Nv.act, hg x (by simp [O.xs])])
  case isn p ne x =>
    cases p with
    | true => exact .act (fun _ => rfl) (fun e' hg _ => by simp only [Nv.act, hg x (by simp [O.xs])])
    | false => exact .act (K := ks e [x]) (fun _ => rfl) (fun e' hg hs => by
        have h1 := hg x (by simp [O.xs])
        have h2 := hs.elems (A := e.get x) (fun d hd => mem_ks (by simp) (k0 hd))
        simp only [Nv.act, h1]
        revert h2
        generalize e.get x = A
        intro h2
        cases A <;> first | rfl | (simp only [h2]))
  case ld n p =>
    have key : ∀ e', (∀ x ∈ [p], e'.get x = e.get x) → Same (ks e [p]) e e' → Nv.act e' (.ld n p) = Nv.act e (.ld n p) := fun e' hg hs => by
      have h1 := hg p (by simp)
      have h2 : ∀ d ∈ keys0 (e.get p), d ∈ ks e [p] := fun d hd => mem_ks (by simp) (k0 hd)
      cases n with
      | none =>
        simp only [Nv.act, h1]
        cases hA : e.get p
        case ptr d g v q j =>
          rw [hA] at h2
          have hd := h2 d (by simp [keys0])
          simp only [hs.cellsP hd, hs.verOf hd]
        all_goals rfl
      | some n =>
        simp only [Nv.act, h1]
        cases hA : e.get p
        case ptr d g v q j =>
          rw [hA] at h2
          have hd := h2 d (by simp [keys0])
          simp only [hs.cellsP hd, expos_same hs hd]
        all_goals rfl
    cases n <;> exact .act (fun _ => rfl) key
  case ia c x i => exact .act (K := ks e [x, i]) (fun _ => rfl) (fun e' hg hs => by
      have h1 := hg x (by simp [O.xs])
      have h3 := hg i (by simp [O.xs])
      have h2 : ∀ d ∈ keys0 (e.get x), d ∈ ks e [x, i] := fun d hd => mem_ks (by simp) (k0 hd)
      simp only [Nv.act, h1, h3]
      cases hA : e.get x
      case ref d g v q j =>
        rw [hA] at h2
        have hd := h2 d (by simp [keys0])
        simp only [hs.cellR hd]
      all_goals rfl)
  case len x => exact .act (K := ks e [x]) (fun _ => rfl) (fun e' hg hs => by
      simp only [Nv.act, hg x (by simp [O.xs]), hs.elems (A := e.get x) (fun d hd => mem_ks (by simp) (k0 hd))])
  case cvbs x => exact .act (K := ks e [x]) (fun _ => rfl) (fun e' hg hs => by
      simp only [Nv.act, hg x (by simp [O.xs]), hs.elems (A := e.get x) (fun d hd => mem_ks (by simp) (k0 hd))])
  case lkp z ok kd m k => exact .act (K := ks e [m, k]) (fun _ => rfl) (fun e' hg hs => by
      have h1 := hg m (by simp [O.xs])
      have h3 := hg k (by simp [O.xs])
      have h2 : ∀ d ∈ keys0 (e.get m), d ∈ ks e [m, k] := fun d hd => mem_ks (by simp) (k0 hd)
      simp only [Nv.act, h1, h3]
      cases hA : e.get m
      case mref d g =>
        rw [hA] at h2
        have hd := h2 d (by simp [keys0])
        simp only [hs.obj hd]
      case raw v =>
        cases v <;> try rfl
        rename_i mo
        cases mo <;> rfl
      all_goals rfl)
  case cvsb E x =>
    refine OpLoc.of (K := []) (W := []) (F := fun e' => match e.get x with
      | .str s => if s.size ≤ 140737488355328 then some (e'.put dst (.sl (byteCells s))) else none
      | _ => none) (fun e' hg => by simp only [evalO, hg x (by simp [O.xs])]; rfl) ?_
    cases hA : e.get x <;> try (intro e1 h1; cases h1; done)
    rename_i s
    by_cases hb : s.size ≤ 140737488355328
    · simp only [if_pos hb]; exact LocP.put (A := .sl (byteCells s)) rfl (fun e' _ => rfl)
    · simp only [if_neg hb]; intro e1 h1; cases h1
  case clo f xs =>
    refine OpLoc.of (K := []) (W := []) (F := fun e' => if (xs.map e.get).all (fun A => A.pure) = true then some (e'.put dst (.fn f (xs.map e.get))) else if (xs.map e.get).all AV.capt = true then some (e'.put dst (.fnp f (xs.map e.get))) else none)
      (fun e' hg => by simp only [evalO, map_same (xs := xs) hg]) ?_
    by_cases h1 : (xs.map e.get).all (fun A => A.pure) = true
    · simp only [if_pos h1]; exact LocP.put (A := .fn f (xs.map e.get)) rfl (fun e' _ => rfl)
    · by_cases h2 : (xs.map e.get).all AV.capt = true
      · simp only [if_neg h1, if_pos h2]; exact LocP.put (A := .fnp f (xs.map e.get)) rfl (fun e' _ => rfl)
      · simp only [if_neg h1, if_neg h2]; intro e1 hh; cases hh
  case box x =>
    refine OpLoc.of (K := dst.toList ++ ks e [x]) (W := dst.toList ++ ks e [x]) (F := fun e' => match partsT (e.get x) with
      | some l => match e'.takes l with
        | some (ps, e1) => e1.newBox dst ps
        | none => none
      | none => none) (fun e' hg => by simp only [evalO, hg x (by simp [O.xs])]; rfl) ?_
    cases hp : partsT (e.get x) with
    | none => exact LocP.none rfl
    | some l =>
      have hlk : ∀ A ∈ l, ∀ d ∈ keys0 A, d ∈ dst.toList ++ ks e [x] := fun A hA d hd => by
        refine hK (x := x) (by simp) ?_
        revert hp
        generalize e.get x = B
        intro hp
        cases B <;> simp only [partsT] at hp
        case agg m => cases hp; exact List.mem_flatMap.2 ⟨A, hA, hd⟩
        all_goals
          split at hp
          · cases hp
            rw [List.mem_singleton.1 hA] at hd
            exact keys1_sub (keys0_sub hd)
          · cases hp
      cases ht : e.takes l with
      | none => exact LocP.none (by simp only [ht])
      | some r =>
        obtain ⟨ps, e1⟩ := r
        exact LocP.stepA (H := fun e1 => e1.newBox dst ps) (loc_takes hlk) ht (newBox_loc (hD _) ps) (fun e e1 h1 => by simp only [h1])
  case new z => exact OpLoc.of (e := e) (o := .new z) (K := dst.toList ++ ks e []) (W := dst.toList ++ ks e []) (F := fun e' => e'.newBox dst z) (fun e' _ => rfl) (newBox_loc (hD _) z)
  case st n p x => exact OpLoc.of (e := e) (o := .st n p x) (K := dst.toList ++ ks e [p, x]) (W := dst.toList ++ ks e [p, x]) (F := fun e' => storeA e' n (e.get p) (e.get x)) (fun e' hg => by simp only [evalO, hg p (by simp [O.xs]), hg x (by simp [O.xs])]) (LocP.of dst (store_loc (fun d hd => hK (x := p) (by simp) (k0 hd)) (fun d hd => hK (x := x) (by simp) (keys1_sub hd))))
  case mk E c by_ z n =>
    refine OpLoc.of (K := dst.toList ++ ks e [n]) (W := dst.toList ++ ks e [n]) (F := fun e' => match e.get n with
      | .int _ m => if 0 ≤ m ∧ m * by_ ≤ 140737488355328 ∧ m ≤ 9223372036854775807 then e'.newRow dst E c (List.replicate m.toNat z) else none
      | _ => none) (fun e' hg => by simp only [evalO, hg n (by simp [O.xs])]; rfl) ?_
    cases hA : e.get n <;> try exact LocP.none rfl
    rename_i k m
    by_cases hb : 0 ≤ m ∧ m * by_ ≤ 140737488355328 ∧ m ≤ 9223372036854775807
    · simp only [if_pos hb]; exact newRow_loc (hD _) E c _
    · exact LocP.none (by simp only; rw [if_neg hb])
  case lit E c xs =>
    refine OpLoc.of (K := dst.toList ++ ks e xs) (W := dst.toList ++ ks e xs) (F := fun e' => match litParts e c xs with
      | some l => match e'.takes l with
        | some (ps, e1) => e1.newRow dst E c (chunks c xs.length ps)
        | none => none
      | none => none) (fun e' hg => by simp only [evalO, litParts_same (xs := xs) hg]; rfl) ?_
    cases hp : litParts e c xs with
    | none => exact LocP.none rfl
    | some l =>
      have hlk : ∀ A ∈ l, ∀ d ∈ keys0 A, d ∈ dst.toList ++ ks e xs := by
        have gen : ∀ (xs : List X) (l : List AV), litParts e c xs = some l → ∀ A ∈ l, ∀ d ∈ keys0 A, d ∈ ks e xs := by
          intro xs
          induction xs with
          | nil => intro l hp A hA; simp [litParts] at hp; subst hp; cases hA
          | cons x xs ih =>
            intro l hp A hA d hd
            simp only [litParts] at hp
            cases h1 : partsT (e.get x) with
            | none => simp [h1] at hp
            | some l1 =>
              simp only [h1] at hp
              by_cases hc : l1.length = c
              case neg => rw [if_neg hc] at hp; cases hp
              rw [if_pos hc] at hp
              cases h2 : litParts e c xs with
              | none => simp [h2] at hp
              | some m =>
                simp only [h2, Option.some.injEq] at hp
                subst hp
                rcases List.mem_append.1 hA with hA | hA
                · refine mem_ks (x := x) (by simp) ?_
                  revert h1
                  generalize e.get x = B
                  intro h1
                  cases B <;> simp only [partsT] at h1
                  case agg m => cases h1; exact List.mem_flatMap.2 ⟨A, hA, hd⟩
                  all_goals
                    split at h1
                    · cases h1
                      rw [List.mem_singleton.1 hA] at hd
                      exact keys1_sub (keys0_sub hd)
                    · cases h1
                · have := ih m h2 A hA d hd
                  simp only [ks, List.flatMap_cons, List.mem_append]
                  exact .inr this
        exact fun A hA d hd => List.mem_append_right _ (gen xs l hp A hA d hd)
      cases ht : e.takes l with
      | none => exact LocP.none (by simp only [ht])
      | some r =>
        obtain ⟨ps, e1⟩ := r
        exact LocP.stepA (H := fun e1 => e1.newRow dst E c (chunks c xs.length ps)) (loc_takes hlk) ht (newRow_loc (hD _) E c _) (fun e e1 h1 => by simp only [h1])
  case app E c by_ s x => exact OpLoc.of (e := e) (o := .app E c by_ s x) (K := dst.toList ++ ks e [s, x]) (W := dst.toList ++ ks e [s, x]) (F := fun e' => appendA e' dst E c by_ (e.get s) (e.get x)) (fun e' hg => by simp only [evalO, hg s (by simp [O.xs]), hg x (by simp [O.xs])]) (app_loc (hD _) E c by_ (fun d hd => hK (x := s) (by simp) (k0 hd)) (fun d hd => hK (x := x) (by simp) (k0 hd)))
  case apps E s x =>
    refine OpLoc.of (K := dst.toList ++ ks e [s, x]) (W := dst.toList ++ ks e [s, x]) (F := fun e' => match e.get x with
      | .str t => appendA e' dst E 1 1 (e.get s) (.sl (byteCells t))
      | _ => none) (fun e' hg => by simp only [evalO, hg s (by simp [O.xs]), hg x (by simp [O.xs])]; rfl) ?_
    cases hA : e.get x <;> try exact LocP.none rfl
    exact app_loc (hD _) E 1 1 (fun d hd => hK (x := s) (by simp) (k0 hd)) (fun d hd => by cases hd)
  case cpy E c by_ x =>
    refine OpLoc.of (K := dst.toList ++ ks e [x]) (W := dst.toList ++ ks e [x]) (F := fun e' => match e'.elems (e.get x) with
      | some m => if m.length * by_ ≤ 140737488355328 ∧ m.all (fun y => y.length == c) = true ∧ allPure m = true then e'.newRow dst E c m else none
      | none => none) (fun e' hg => by simp only [evalO, hg x (by simp [O.xs])]; rfl) ?_
    have hel : ∀ e', Same (dst.toList ++ ks e [x]) e e' → e'.elems (e.get x) = e.elems (e.get x) := fun e' hs => hs.elems (fun d hd => hK (x := x) (by simp) (k0 hd))
    cases hm : e.elems (e.get x) with
    | none => exact LocP.none (by simp only [hm])
    | some m =>
      by_cases hb : m.length * by_ ≤ 140737488355328 ∧ m.all (fun y => y.length == c) = true ∧ allPure m = true
      · intro e1 h1
        simp only [hm] at h1
        rw [if_pos hb] at h1
        obtain ⟨B, e0, a1, a2, a3⟩ := newRow_loc (K := dst.toList ++ ks e [x]) (hD _) E c m e1 h1
        exact ⟨B, e0, a1, a2, fun e' hs => by
          obtain ⟨e0', b1, b2⟩ := a3 e' hs
          exact ⟨e0', by simp only [hel e' hs, hm]; rw [if_pos hb]; exact b1, b2⟩⟩
      · exact LocP.none (by simp only [hm]; rw [if_neg hb])
  case sub c x lo hi =>
    have hxx : ∀ d ∈ keysA (e.get x), d ∈ dst.toList ++ ks e (O.sub c x lo hi).xs := fun d hd => hK (x := x) (by simp [O.xs]) hd
    refine OpLoc.of (K := dst.toList ++ ks e (O.sub c x lo hi).xs) (W := dst.toList ++ ks e (O.sub c x lo hi).xs) (F := fun e' => match e'.freezes (refsOf (e.get x)) with
      | some e1 => match e1.view1 (e.get x) with
        | some B => match AV.slOf B with
          | some m => match intArg 0 (lo.map e.get), intArg m.length (hi.map e.get) with
            | some l, some h => if 0 ≤ l ∧ l ≤ h ∧ h ≤ m.length ∧ m.all (fun y => y.length == c) = true then some (e1.put dst (.sl ((m.take h.toNat).drop l.toNat))) else none
            | _, _ => none
          | none => none
        | none => none
      | none => none) (fun e' hg => by
        simp only [evalO, hg x (by simp [O.xs]), opt_same (lo := lo) (fun y hy => hg y (by simp only [O.xs, List.mem_cons, List.mem_append]; exact .inr (.inl hy))), opt_same (lo := hi) (fun y hy => hg y (by simp only [O.xs, List.mem_cons, List.mem_append]; exact .inr (.inr hy)))]; rfl) ?_
    have hrf : ∀ A ∈ refsOf (e.get x), ∀ d ∈ keys0 A, d ∈ dst.toList ++ ks e (O.sub c x lo hi).xs := fun A hA d hd => by
      refine hxx d ?_
      revert hA
      generalize e.get x = B
      intro hA
      cases B <;> simp only [refsOf, List.mem_singleton, List.not_mem_nil] at hA
      · exact List.mem_flatMap.2 ⟨A, (List.mem_filter.1 hA).1, hd⟩
      · subst hA; exact hd
    cases hf : e.freezes (refsOf (e.get x)) with
    | none => exact LocP.none (by simp only [hf])
    | some e1 =>
      have hk1 : ∀ d ∈ keys0 (e.get x), d ∈ dst.toList ++ ks e (O.sub c x lo hi).xs := fun d hd => hxx d (k0 hd)
      intro e2 h2
      obtain ⟨a1, a2⟩ := loc_freezes (K := dst.toList ++ ks e (O.sub c x lo hi).xs) hrf e1 hf
      simp only [hf] at h2
      cases hv : e1.view1 (e.get x) with
      | none => simp [hv] at h2
      | some B =>
        simp only [hv] at h2
        cases hs1 : AV.slOf B with
        | none => simp [hs1] at h2
        | some m =>
          simp only [hs1] at h2
          cases hl : intArg 0 (lo.map e.get) with
          | none => simp [hl] at h2
          | some l =>
            cases hh : intArg m.length (hi.map e.get) with
            | none => simp [hl, hh] at h2
            | some h =>
              simp only [hl, hh] at h2
              by_cases hb : 0 ≤ l ∧ l ≤ h ∧ h ≤ m.length ∧ m.all (fun y => y.length == c) = true
              case neg => rw [if_neg hb] at h2; cases h2
              rw [if_pos hb] at h2
              cases h2
              refine ⟨some _, e1, a1, rfl, fun e' hs => ?_⟩
              obtain ⟨e1', c1, c2, c3⟩ := a2 e' hs
              simp only at c1
              exact ⟨e1', by simp only [c1, c3.view1 hk1, hv, hs1, hl, hh]; rw [if_pos hb]; rfl, c2, c3.at_⟩
  case call f ms xs => exact OpLoc.of (e := e) (o := .call f ms xs) (K := dst.toList ++ ks e xs) (W := dst.toList ++ ks e xs) (F := fun e' => callA R e' dst f ms (xs.map e.get)) (fun e' hg => by simp only [evalO, map_same (xs := xs) hg]) (loc_call (hD _) f ms (fun A hA d hd => by
        obtain ⟨x, hx, rfl⟩ := List.mem_map.1 hA
        exact hK hx (keys1_sub hd)))
  case calld x xs =>
    have hxk : ∀ d ∈ keysA (e.get x), d ∈ dst.toList ++ ks e (x :: xs) := fun d hd => hK (by simp) hd
    refine OpLoc.of (K := dst.toList ++ ks e (x :: xs)) (W := dst.toList ++ ks e (x :: xs)) (F := fun e' => match e.get x with
      | .fn f l => callA R e' dst f (List.replicate (xs.length + l.length) .ro) (xs.map e.get ++ l)
      | .fnp f l => callA R e' dst f (List.replicate (xs.length + l.length) .ro) (xs.map e.get ++ l)
      | _ => none) (fun e' hg => by
        simp only [evalO, hg x (by simp [O.xs]), map_same (xs := xs) (fun y hy => hg y (by simp only [O.xs, List.mem_cons]; exact .inr hy))]; rfl) ?_
    have hall : ∀ (l : List AV), (∀ d ∈ l.flatMap keys1, d ∈ dst.toList ++ ks e (x :: xs)) → ∀ A ∈ xs.map e.get ++ l, ∀ d ∈ keys1 A, d ∈ dst.toList ++ ks e (x :: xs) := fun l hl A hA d hd => by
      rcases List.mem_append.1 hA with hA | hA
      · obtain ⟨y, hy, rfl⟩ := List.mem_map.1 hA
        exact hK (x := y) (by simp [hy]) (keys1_sub hd)
      · exact hl d (List.mem_flatMap.2 ⟨A, hA, hd⟩)
    cases hA : e.get x <;> try exact LocP.none rfl
    · rename_i f l
      rw [hA] at hxk
      exact loc_call (hD _) f _ (hall l hxk)
    · rename_i f l
      rw [hA] at hxk
      exact loc_call (hD _) f _ (hall l hxk)
  case mkm =>
    cases dst with
    | none => exact OpLoc.of (K := [] ++ ks e []) (W := [] ++ ks e []) (F := fun e' => none) (fun e' _ => rfl) (LocP.none rfl)
    | some d => exact OpLoc.of (K := [d] ++ ks e []) (W := [d] ++ ks e []) (F := fun e' => match e'.make d 0 (.map []) with
        | some e1 => some (e1.put (some d) (.mref d (e'.gen d + 1)))
        | none => none) (fun e' _ => rfl) (LocP.makePut (A := fun g => .mref d (g + 1)) (by simp) rfl (fun e => rfl))
  case mset kd m k v => exact OpLoc.of (e := e) (o := .mset kd m k v) (K := dst.toList ++ ks e [m, k, v]) (W := dst.toList ++ ks e [m, k, v]) (F := fun e' => e'.mapSet kd (e.get m) (e.get k) (e.get v)) (fun e' hg => by simp only [evalO, hg m (by simp [O.xs]), hg k (by simp [O.xs]), hg v (by simp [O.xs])]) (LocP.of dst (mapSet_loc (fun d hd => hK (x := m) (by simp) (k0 hd))))
end
end Go.Nv
/- BY VALUE, with trees. Part 41: regions, and the orders that may be drawn. -/
namespace Go.Nv
variable [Dr]
open Go.RowKit
def evalOP (R : Nat → List AV → Option AV) (e : Env) (c : OP) : Option Env := match c.guard with
  | none => evalO R e c.dst c.op
  | some (t, want) => match e.tmps.getD t .unk with
    | .bool b => if b = want then evalO R e c.dst c.op else some (e.put c.dst .und)
    | .und => some (e.put c.dst .und)
    | _ => none
def evalOps (R : Nat → List AV → Option AV) : List OP → Env → Option Env
  | [], e => some e
  | c :: cs, e => match evalOP R e c with
    | some e1 => evalOps R cs e1
    | none => none
abbrev FP := List Nat × List Nat
def OP.fp (c : OP) (e : Env) : FP := (c.op.keys e c.dst, c.op.wr e c.dst)
def evalD (R : Nat → List AV → Option AV) : List OP → Env → Option (Env × List FP)
  | [], e => some (e, [])
  | c :: cs, e => match evalOP R e c with
    | some e1 => match evalD R cs e1 with
      | some (e2, fs) => some (e2, c.fp e :: fs)
      | none => none
    | none => none
def disj (a b : List Nat) : Bool := a.all fun d => !b.contains d
def okPair (fs : List FP) (p : Nat × Nat) : Bool := disj (fs.getD p.1 ([], [])).2 (fs.getD p.2 ([], [])).1 && disj (fs.getD p.2 ([], [])).2 (fs.getD p.1 ([], [])).1
/-- The temporaries that are read. -/
def X.tl : X → List Nat
  | .t n => [n]
  | .c _ => []
def OP.tr (c : OP) : List Nat := (c.op.xs.flatMap X.tl) ++ (match c.guard with
  | some (t, _) => [t]
  | none => [])
def apartT (a b : OP) : Bool := (a.op.loc && b.op.loc) && ((match a.dst with
    | some d => !b.tr.contains d && b.dst != some d
    | none => true) && (match b.dst with
    | some d => !a.tr.contains d
    | none => true))
def clsFree (a b : OP) : Bool := a.op.cls == 0 || (b.op.cls == 0 || (a.op.cls != 2 && b.op.cls != 2))
omit [Dr] in
theorem cls_cases (o : O) : o.cls = 0 ∨ o.cls = 1 ∨ o.cls = 2 := by
  cases o
  case isn p ne x => cases p <;> simp [O.cls]
  all_goals simp [O.cls]
omit [Dr] in
theorem disj_spec {a b : List Nat} (h : disj a b = true) : ∀ d ∈ a, d ∉ b := fun d hd hb => by
  have := List.all_eq_true.1 h d hd
  simp [hb] at this
structure Apt (a b : OP × FP) : Prop where
  t : apartT a.1 b.1 = true
  ab : ∀ d ∈ a.2.2, d ∉ b.2.1
  ba : ∀ d ∈ b.2.2, d ∉ a.2.1
inductive Runs (R : Nat → List AV → Option AV) : List (OP × FP) → Env → Env → Prop where
  | nil (e : Env) : Runs R [] e e
  | cons {c : OP} {l : List (OP × FP)} {e e1 e2 : Env} (h : evalOP R e c = some e1) (ht : Runs R l e1 e2) : Runs R ((c, c.fp e) :: l) e e2
section
variable {R : Nat → List AV → Option AV} {e e1 e2 : Env} {dst : Option Nat} {o : O}
omit [Dr] in
theorem putO_objs (e : Env) (dst : Option Nat) (B : Option AV) : (e.putO dst B).objs = e.objs := by
  cases B <;> cases dst <;> rfl
omit [Dr] in
theorem putO_get (e : Env) (dst : Option Nat) (B : Option AV) {t : Nat} (h : ∀ d, dst = some d → d ≠ t) : (e.putO dst B).tmps.getD t .unk = e.tmps.getD t .unk := by
  cases B with
  | none => rfl
  | some A =>
    cases dst with
    | none => rfl
    | some d => exact getD_set_ne _ _ _ _ _ (h d rfl)
omit [Dr] in
theorem get_same {e e' : Env} {xs : List X} (h : ∀ t ∈ xs.flatMap X.tl, e'.tmps.getD t .unk = e.tmps.getD t .unk) : ∀ x ∈ xs, e'.get x = e.get x := fun x hx => by
  cases x with
  | t n => exact h n (List.mem_flatMap.2 ⟨_, hx, by simp [X.tl]⟩)
  | c A => rfl
omit [Dr] in
theorem fp_same {e e' : Env} {c : OP} (h : ∀ t ∈ c.tr, e'.tmps.getD t .unk = e.tmps.getD t .unk) : c.fp e' = c.fp e := by
  have hg := get_same (e := e) (e' := e') (xs := c.op.xs) (fun t ht => h t (List.mem_append_left _ ht))
  have hk : ks e' c.op.xs = ks e c.op.xs := by
    unfold ks
    generalize c.op.xs = xs at hg
    induction xs with
    | nil => rfl
    | cons x xs ih => simp only [List.flatMap_cons, hg x List.mem_cons_self, ih (fun y hy => hg y (List.mem_cons_of_mem _ hy))]
  simp only [OP.fp, O.keys, O.wr, hk]
omit [Dr] in
theorem opLoc (R : Nat → List AV → Option AV) (e : Env) (c : OP) (hloc : c.op.loc = true) : ∀ e1, evalOP R e c = some e1 → ∃ B e0, Upd (c.fp e).2 e e0 ∧ e1 = e0.putO c.dst B ∧
    ∀ e', (∀ t ∈ c.tr, e'.tmps.getD t .unk = e.tmps.getD t .unk) → Same (c.fp e).1 e e' → ∃ e0', evalOP R e' c = some (e0'.putO c.dst B) ∧ Upd (c.fp e).2 e' e0' ∧ ∀ d ∈ (c.fp e).2, e0'.objs[d]? = e0.objs[d]? := by
  intro e1 h1
  have run : ∀ e1, evalO R e c.dst c.op = some e1 → ∃ B e0, Upd (c.fp e).2 e e0 ∧ e1 = e0.putO c.dst B ∧
      ∀ e', (∀ t ∈ c.tr, e'.tmps.getD t .unk = e.tmps.getD t .unk) → Same (c.fp e).1 e e' → ∃ e0', evalO R e' c.dst c.op = some (e0'.putO c.dst B) ∧ Upd (c.fp e).2 e' e0' ∧ ∀ d ∈ (c.fp e).2, e0'.objs[d]? = e0.objs[d]? := fun e1 h1 => by
    obtain ⟨B, e0, a1, a2, a3⟩ := op_loc R e c.dst c.op hloc e1 h1
    exact ⟨B, e0, a1, a2, fun e' ht hs => a3 e' (get_same (fun t ht' => ht t (List.mem_append_left _ ht'))) hs⟩
  have skip : evalOP R e c = some (e.put c.dst .und) → (∀ e', (∀ t ∈ c.tr, e'.tmps.getD t .unk = e.tmps.getD t .unk) → evalOP R e' c = some (e'.put c.dst .und)) → ∃ B e0, Upd (c.fp e).2 e e0 ∧ e.put c.dst .und = e0.putO c.dst B ∧
      ∀ e', (∀ t ∈ c.tr, e'.tmps.getD t .unk = e.tmps.getD t .unk) → Same (c.fp e).1 e e' → ∃ e0', evalOP R e' c = some (e0'.putO c.dst B) ∧ Upd (c.fp e).2 e' e0' ∧ ∀ d ∈ (c.fp e).2, e0'.objs[d]? = e0.objs[d]? := fun _ h2 =>
    ⟨some .und, e, .refl, rfl, fun e' ht hs => ⟨e', h2 e' ht, .refl, fun d hd => hs.at_ d (wr_sub hd)⟩⟩
  cases hg : c.guard with
  | none =>
    have hE : ∀ e', evalOP R e' c = evalO R e' c.dst c.op := fun e' => by simp only [evalOP, hg]
    simp only [hE] at h1 ⊢
    exact run e1 h1
  | some g =>
    obtain ⟨t, want⟩ := g
    have htr : t ∈ c.tr := List.mem_append_right _ (by rw [hg]; simp)
    have h0 := h1
    simp only [evalOP, hg] at h1
    cases hb : e.tmps.getD t .unk <;> simp only [hb] at h1 <;> try (cases h1; done)
    · cases h1
      exact skip h0 (fun e' ht => by simp only [evalOP, hg, ht t htr, hb])
    · rename_i b
      by_cases hw : b = want
      · rw [if_pos hw] at h1
        obtain ⟨B, e0, a1, a2, a3⟩ := run e1 h1
        refine ⟨B, e0, a1, a2, fun e' ht hs => ?_⟩
        obtain ⟨e0', b1, b2⟩ := a3 e' ht hs
        exact ⟨e0', by simp only [evalOP, hg, ht t htr, hb]; rw [if_pos hw]; exact b1, b2⟩
      · rw [if_neg hw] at h1
        cases h1
        exact skip h0 (fun e' ht => by simp only [evalOP, hg, ht t htr, hb]; rw [if_neg hw])
omit [Dr] in
theorem Env.ext' {e e' : Env} (h1 : e.tmps = e'.tmps) (h2 : ∀ d : Nat, e.objs[d]? = e'.objs[d]?) : e = e' := by
  obtain ⟨t, o⟩ := e
  obtain ⟨t', o'⟩ := e'
  cases h1
  have : o = o' := List.ext_getElem? h2
  rw [this]
omit [Dr] in
/-- Two operations that are apart may be taken in the other order. -/
theorem comm {y x : OP} (hy : evalOP R e y = some e1) (hx : evalOP R e1 x = some e2) (ht : apartT y x = true) (hyx : ∀ d ∈ (y.fp e).2, d ∉ (x.fp e1).1) (hxy : ∀ d ∈ (x.fp e1).2, d ∉ (y.fp e).1) :
    ∃ e1', evalOP R e x = some e1' ∧ evalOP R e1' y = some e2 ∧ x.fp e = x.fp e1 ∧ y.fp e1' = y.fp e := by
  unfold apartT at ht
  simp only [Bool.and_eq_true] at ht
  obtain ⟨⟨hl1, hl2⟩, ht1, ht2⟩ := ht
  have hyx' : ∀ t ∈ x.tr, ∀ d, y.dst = some d → d ≠ t := fun t htx d hd hh => by
    rw [hd] at ht1
    simp only [Bool.and_eq_true, Bool.not_eq_true'] at ht1
    have := ht1.1
    rw [hh] at this
    simp [htx] at this
  have hxy' : ∀ t ∈ y.tr, ∀ d, x.dst = some d → d ≠ t := fun t hty d hd hh => by
    rw [hd] at ht2
    simp only [Bool.not_eq_true'] at ht2
    rw [hh] at ht2
    simp [hty] at ht2
  have hdd : ∀ d, y.dst = some d → x.dst ≠ some d := fun d hd hh => by
    rw [hd] at ht1
    simp only [Bool.and_eq_true] at ht1
    have := ht1.2
    rw [hh] at this
    simp at this
  obtain ⟨By, ey, a1, rfl, a3⟩ := opLoc R e y hl1 e1 hy
  obtain ⟨Bx, ex, b1, rfl, b3⟩ := opLoc R _ x hl2 e2 hx
  have hobj1 : ∀ d : Nat, (ey.putO y.dst By).objs[d]? = ey.objs[d]? := fun d => by rw [putO_objs]
  have hfx : x.fp e = x.fp (ey.putO y.dst By) := fp_same (fun t htx => by rw [putO_get _ _ _ (hyx' t htx), a1.tm])
  obtain ⟨ex', c1, c2, c3⟩ := b3 e (fun t htx => by rw [putO_get _ _ _ (hyx' t htx), a1.tm]) ⟨by rw [putO_objs, a1.len], fun d hd => by rw [hobj1, a1.out d (fun hh => hyx d hh hd)]⟩
  have hobj2 : ∀ d : Nat, (ex'.putO x.dst Bx).objs[d]? = ex'.objs[d]? := fun d => by rw [putO_objs]
  have hty : ∀ t ∈ y.tr, (ex'.putO x.dst Bx).tmps.getD t .unk = e.tmps.getD t .unk := fun t hty => by rw [putO_get _ _ _ (hxy' t hty), c2.tm]
  obtain ⟨ey', d1, d2, d3⟩ := a3 (ex'.putO x.dst Bx) hty ⟨by rw [putO_objs, c2.len], fun d hd => by rw [hobj2, c2.out d (fun hh => hxy d hh hd)]⟩
  refine ⟨_, c1, ?_, hfx, fp_same hty⟩
  rw [d1]
  congr 1
  refine Env.ext' ?_ (fun d => ?_)
  · have e1 : ey'.tmps = (ex'.putO x.dst Bx).tmps := d2.tm
    have e2 : ex.tmps = (ey.putO y.dst By).tmps := b1.tm
    have e3 : ∀ (u v : Env) (B : Option AV) (dd : Option Nat), u.tmps = v.tmps → (u.putO dd B).tmps = (v.putO dd B).tmps := fun u v B dd huv => by
      cases B <;> cases dd <;> simp [Env.putO, Env.put, huv]
    rw [e3 ey' (ex'.putO x.dst Bx) By y.dst e1, e3 ex (ey.putO y.dst By) Bx x.dst e2]
    have e4 : ((ex'.putO x.dst Bx).putO y.dst By).tmps = ((e.putO x.dst Bx).putO y.dst By).tmps := e3 _ _ _ _ (e3 _ _ _ _ c2.tm)
    have e5 : ((ey.putO y.dst By).putO x.dst Bx).tmps = ((e.putO y.dst By).putO x.dst Bx).tmps := e3 _ _ _ _ (e3 _ _ _ _ a1.tm)
    rw [e4, e5]
    cases By with
    | none => rfl
    | some A =>
      cases Bx with
      | none => rfl
      | some A' =>
        cases hdy : y.dst with
        | none => rfl
        | some dy =>
          cases hdx : x.dst with
          | none => rfl
          | some dx =>
            have hne : dy ≠ dx := fun hh => hdd dy hdy (by rw [hdx, hh])
            simp only [Env.putO, Env.put]
            exact List.set_comm _ _ (fun hh => hne hh.symm)
  · rw [putO_objs, putO_objs]
    by_cases hdy : d ∈ (y.fp e).2
    · have hdx : d ∉ (x.fp (ey.putO y.dst By)).2 := fun hh => hyx d hdy (wr_sub hh)
      rw [d3 d hdy, b1.out d hdx, hobj1]
    · rw [d2.out d hdy, hobj2]
      by_cases hdx : d ∈ (x.fp (ey.putO y.dst By)).2
      · exact c3 d hdx
      · rw [c2.out d hdx, b1.out d hdx, hobj1, a1.out d hdy]
omit [Dr] in
/-- One that is apart from all before it may be taken first. -/
theorem bubble : ∀ {l1 : List (OP × FP)} {p : OP × FP} {l2 : List (OP × FP)} {e e' : Env}, Runs R (l1 ++ p :: l2) e e' → (∀ y ∈ l1, Apt y p) → Runs R (p :: (l1 ++ l2)) e e'
  | [], p, l2, e, e', h, _ => h
  | y :: l1, p, l2, e, e', h, ha => by
    cases h with
    | cons hy ht =>
      rename_i c e1
      have h2 := bubble ht (fun z hz => ha z (List.mem_cons_of_mem _ hz))
      cases h2 with
      | cons hx ht2 =>
        rename_i c' e2
        have hap := ha _ List.mem_cons_self
        obtain ⟨e1', r1, r2, r3, r4⟩ := comm hy hx hap.t hap.ab hap.ba
        rw [← r3]
        refine .cons r1 ?_
        rw [List.cons_append, ← r4]
        exact .cons r2 ht2
omit [Dr] in
theorem evalD_runs : ∀ {cs : List OP} {e e' : Env} {fs : List FP}, evalD R cs e = some (e', fs) → fs.length = cs.length ∧ Runs R (cs.zip fs) e e'
  | [], e, e', fs, h => by
    simp only [evalD, Option.some.injEq, Prod.mk.injEq] at h
    obtain ⟨rfl, rfl⟩ := h
    exact ⟨rfl, .nil _⟩
  | c :: cs, e, e', fs, h => by
    simp only [evalD] at h
    cases h1 : evalOP R e c with
    | none => simp [h1] at h
    | some e1 =>
      simp only [h1] at h
      cases h2 : evalD R cs e1 with
      | none => simp [h2] at h
      | some q =>
        obtain ⟨e2, fs'⟩ := q
        simp only [h2, Option.some.injEq, Prod.mk.injEq] at h
        obtain ⟨rfl, rfl⟩ := h
        obtain ⟨i1, i2⟩ := evalD_runs h2
        exact ⟨by simp [i1], .cons h1 i2⟩
omit [Dr] in
theorem evalD_of : ∀ {cs : List OP} {e e' : Env}, evalOps R cs e = some e' → ∃ fs, evalD R cs e = some (e', fs)
  | [], e, e', h => by
    simp only [evalOps, Option.some.injEq] at h
    subst h
    exact ⟨[], rfl⟩
  | c :: cs, e, e', h => by
    simp only [evalOps] at h
    cases h1 : evalOP R e c with
    | none => simp [h1] at h
    | some e1 =>
      simp only [h1] at h
      obtain ⟨fs, h2⟩ := evalD_of h
      exact ⟨c.fp e :: fs, by simp only [evalD, h1, h2]⟩
end
end Go.Nv
/- BY VALUE, with trees. Part 42: regions. -/
namespace Go.Nv
variable [Dr]
open Go.RowKit
def compG (ops : Array Oper) : Option (Nat × Bool) → Option (Option (Nat × Bool))
  | none => some none
  | some (j, want) => match (ops[j]?).bind (·.dst) with
    | some t => some (some (t, want))
    | none => none
def compOP (P : Program) (ops : Array Oper) (o : Oper) : Option OP :=
  match compO P o, compG ops o.guard with
  | some op, some g => some ⟨o.dst, op, g⟩
  | _, _ => none
def compOPs (P : Program) (ops : Array Oper) : List Oper → Option (List OP)
  | [] => some []
  | o :: l => match compOP P ops o, compOPs P ops l with
    | some c, some m => some (c :: m)
    | _, _ => none
section
variable {P : Program} {w0 : World} {L : Lend} {ok0 : Nat → Nat → Prop} {e : Env} {a : Act} {w : World} {G : Gh}
variable {R : Nat → List AV → Option AV} {K : Act → World → Prop} {Q : Exit → Act → World → Prop} {e' : Env} {ops : Array Oper}
omit [Dr] in
theorem compOPs_spec : ∀ {l : List Oper} {m : List OP}, compOPs P ops l = some m → m.length = l.length ∧ ∀ i, i < l.length → ∃ o c, l[i]? = some o ∧ m[i]? = some c ∧ compOP P ops o = some c
  | [], m, h => by simp [compOPs] at h; subst h; exact ⟨rfl, fun i hi => absurd hi (by simp)⟩
  | o :: l, m, h => by
    simp only [compOPs] at h
    cases h1 : compOP P ops o with
    | none => simp [h1] at h
    | some c =>
      cases h2 : compOPs P ops l with
      | none => simp [h1, h2] at h
      | some m' =>
        simp only [h1, h2, Option.some.injEq] at h
        subst h
        obtain ⟨i1, i2⟩ := compOPs_spec h2
        refine ⟨by simp [i1], fun i hi => ?_⟩
        cases i with
        | zero => exact ⟨o, c, rfl, rfl, h1⟩
        | succ i => simpa using i2 i (by simpa using hi)
theorem simOP (hR : VSound P R) (h : Rel w0 L ok0 e a w G) {i : Nat} {o : Oper} {c : OP} (hi : ops[i]? = some o) (hc : compOP P ops o = some c) (he : evalOP R e c = some e')
    (hK : ∀ a' w' G', Rel w0 L ok0 e' a' w' G' → K a' w') : wpOp P ops Q i K a w := by
  unfold compOP at hc
  cases h1 : compO P o with
  | none => simp [h1] at hc
  | some op =>
    cases h2 : compG ops o.guard with
    | none => simp [h1, h2] at hc
    | some g =>
      simp only [h1, h2, Option.some.injEq] at hc
      subst hc
      unfold wpOp
      simp only [hi]
      cases hg : o.guard with
      | none =>
        rw [hg] at h2
        simp [compG] at h2
        subst h2
        have hw : Region.wanted o (yielded ops a.tmps) = true := by simp [Region.wanted, hg]
        rw [if_pos hw]
        exact .inl (simO hR h h1 he hK)
      | some jw =>
        obtain ⟨j, want⟩ := jw
        rw [hg] at h2
        simp only [compG] at h2
        cases h3 : (ops[j]?).bind (·.dst) with
        | none => simp [h3] at h2
        | some t =>
          simp only [h3, Option.some.injEq] at h2
          subst h2
          simp only [evalOP] at he
          by_cases hund : e.tmps.getD t .unk = .und
          · rw [hund] at he
            simp only [Option.some.injEq] at he
            subst he
            have ht : t < e.tmps.length := by
              rcases Nat.lt_or_ge t e.tmps.length with ht | ht
              · exact ht
              · simp [List.getD_eq_getElem?_getD, List.getElem?_eq_none ht] at hund
            have hv := h.tmps t ht
            rw [hund] at hv
            have hb : a.tmps.getD t undef = undef := by
              have hv' : RepR w G.ok (a.tmps.getD t undef) .und := hv
              generalize a.tmps.getD t undef = v at hv'
              cases hv'; rfl
            have hts : t < a.tmps.size := by rw [h.size]; exact ht
            have hy : yielded ops a.tmps j = none := by
              have h5 : a.tmps[t]? = some undef := by
                rw [Array.getD_eq_getD_getElem?, Array.getElem?_eq_getElem hts] at hb
                rw [Array.getElem?_eq_getElem hts]
                simpa using hb
              simp [yielded, h3, h5, undef]
            have hw : Region.wanted o (yielded ops a.tmps) = false := by simp [Region.wanted, hg, hy]
            rw [if_neg (by rw [hw]; simp)]
            exact hK _ _ _ (h.put o.dst RepR.und.toT)
          cases h4 : e.tmps.getD t .unk <;> simp only [h4] at he <;> (first | (cases he; done) | exact absurd h4 hund | skip)
          rename_i b
          have ht : t < e.tmps.length := by
            rcases Nat.lt_or_ge t e.tmps.length with ht | ht
            · exact ht
            · simp [List.getD_eq_getElem?_getD, List.getElem?_eq_none ht] at h4
          have hv := h.tmps t ht
          rw [h4] at hv
          have hb := inv_bool hv
          have hts : t < a.tmps.size := by rw [h.size]; exact ht
          have hy : yielded ops a.tmps j = some b := by
            have h5 : a.tmps[t]? = some (.bool b) := by
              rw [Array.getD_eq_getD_getElem?, Array.getElem?_eq_getElem hts] at hb
              rw [Array.getElem?_eq_getElem hts]
              simpa using hb
            simp [yielded, h3, h5]
          have hw : Region.wanted o (yielded ops a.tmps) = (b == want) := by simp [Region.wanted, hg, hy]
          by_cases hbw : b = want
          · rw [if_pos hbw] at he
            rw [if_pos (by rw [hw]; simp [hbw])]
            exact .inl (simO hR h h1 he hK)
          · rw [if_neg hbw] at he
            cases he
            rw [if_neg (by rw [hw]; simp [hbw])]
            exact hK _ _ _ (h.put o.dst RepR.und.toT)
theorem simOps (hR : VSound P R) {cs : List OP} (hcs : compOPs P ops ops.toList = some cs) (hQ : ∀ a' w' G', Rel w0 L ok0 e' a' w' G' → Q .normal a' w') :
    ∀ (n k : Nat) (e : Env) (a : Act) (w : World) (G : Gh), k + n = ops.size → Rel w0 L ok0 e a w G → evalOps R (cs.drop k) e = some e' → wpOps P ops Q (List.range' k n) a w := by
  obtain ⟨hl, hsp⟩ := compOPs_spec hcs
  intro n
  induction n with
  | zero =>
    intro k e a w G hk h he
    have : cs.drop k = [] := List.drop_eq_nil_of_le (by rw [hl]; simp; omega)
    rw [this] at he
    cases he
    exact hQ _ _ _ h
  | succ n ih =>
    intro k e a w G hk h he
    have hk' : k < ops.toList.length := by simp; omega
    obtain ⟨o, c, h1, h2, h3⟩ := hsp k hk'
    have hlt : k < cs.length := by rw [hl]; exact hk'
    have hc : cs[k] = c := by rw [List.getElem?_eq_getElem hlt] at h2; simpa using h2
    rw [List.drop_eq_getElem_cons hlt, hc] at he
    simp only [evalOps] at he
    cases h4 : evalOP R e c with
    | none => simp [h4] at he
    | some e1 =>
      simp only [h4] at he
      rw [List.range'_succ, wpOps_cons]
      exact simOP hR h (by rw [← Array.getElem?_toList]; exact h1) h3 h4 (fun a' w' G' h' => ih (k + 1) e1 a' w' G' (by omega) h' he)
/-- A region in the text's order. -/
theorem sim_region (hR : VSound P R) (h : Rel w0 L ok0 e a w G) {id : Nat} {cs : List OP} (hcs : compOPs P ops ops.toList = some cs) (he : evalOps R cs e = some e')
    (hQ : ∀ a' w' G', Rel w0 L ok0 e' a' w' G' → Q .normal a' w') : (Code.region id ops false).wp P Q a w := by
  refine wp_region ?_
  rw [List.range_eq_range']
  exact simOps hR hcs hQ ops.size 0 e a w G (by omega) h (by simpa using he)
/-! ### What a draw leaves -/
theorem Rel.drew (h : Rel w0 L ok0 e a w G) : Rel w0 L ok0 e a w.drew G := by
  have hsame : ∀ b o, G.ok b o → SameAt w w.drew b o := fun _ _ _ => SameAt.of_block rfl
  have hs : StaysO w w.drew G G e.objs.length e.objs.length := ⟨fun _ _ hh => hh, hsame, fun _ _ _ _ _ => ⟨rfl, fun _ hb => ⟨hb, rfl⟩⟩, fun _ _ _ _ hb => ⟨hb, rfl⟩, fun _ _ _ => rfl, fun _ _ _ _ => rfl⟩
  exact (h.stay hs (Nat.le_refl _) ⟨h.fr.os, h.fr.tape, h.fr.output, h.fr.size, h.fr.block, fun dd => Nat.le_trans (h.fr.drawn dd) (Nat.le_succ _)⟩ h.okb h.ok0 h.own).1
/-- Which must come before which: told number by number. -/
def edgesOf (o : Oper) : List Nat := (o.after.toList.filter fun e => Region.binds .any e).map (·.on)
def ancs (ops : List Oper) : List (List Nat) :=
  ops.foldl (fun acc o => acc ++ [(edgesOf o).foldl (fun s k => (k :: acc.getD k []).foldl (fun s x => if s.contains x then s else x :: s) s) []]) []
/-- The pairs that are asked when the region is run. -/
def pairsOf (ops : List Oper) (cs : List OP) : List (Nat × Nat) :=
  let A := ancs ops
  (List.range cs.length).flatMap fun j => (List.range j).filterMap fun i => match cs[i]?, cs[j]? with
    | some b, some c => if (A.getD j []).contains i || clsFree b c then none else some (i, j)
    | _, _ => none
def drawOk (ops : List Oper) (cs : List OP) (prs : List (Nat × Nat)) : Bool :=
  let A := ancs ops
  (List.range cs.length).all (fun j => match ops[j]?, cs[j]? with
    | some o, some c =>
      (edgesOf o).all (fun k => Nat.blt k j) &&
      ((A.getD j []).all (fun i => (edgesOf o).any (fun k => k == i || (A.getD k []).contains i)) &&
      (List.range j).all (fun i => match cs[i]? with
        | some b => (A.getD j []).contains i || (apartT b c && (clsFree b c || prs.contains (i, j)))
        | none => false))
    | _, _ => false)
structure DrawOk (ops : List Oper) (cs : List OP) (prs : List (Nat × Nat)) (A : Nat → List Nat) : Prop where
  edge : ∀ (j : Nat) (o : Oper), j < cs.length → ops[j]? = some o → ∀ k ∈ edgesOf o, k < j
  anc : ∀ (j : Nat) (o : Oper), j < cs.length → ops[j]? = some o → ∀ i ∈ A j, ∃ k ∈ edgesOf o, k = i ∨ i ∈ A k
  apart : ∀ (i j : Nat) (a b : OP), i < j → cs[i]? = some a → cs[j]? = some b → i ∈ A j ∨ (apartT a b = true ∧ (clsFree a b = true ∨ (i, j) ∈ prs))
omit [Dr] in
theorem drawOk_spec {ops : List Oper} {cs : List OP} {prs : List (Nat × Nat)} (h : drawOk ops cs prs = true) : DrawOk ops cs prs (fun j => (ancs ops).getD j []) := by
  unfold drawOk at h
  simp only [List.all_eq_true, List.mem_range] at h
  have hj : ∀ j, j < cs.length → ∃ o c, ops[j]? = some o ∧ cs[j]? = some c ∧ (∀ k ∈ edgesOf o, k < j) ∧ (∀ i ∈ (ancs ops).getD j [], ∃ k ∈ edgesOf o, k = i ∨ i ∈ (ancs ops).getD k []) ∧
      ∀ i, i < j → ∃ b, cs[i]? = some b ∧ (i ∈ (ancs ops).getD j [] ∨ (apartT b c = true ∧ (clsFree b c = true ∨ (i, j) ∈ prs))) := by
    intro j hj
    have := h j hj
    cases ho : ops[j]? with
    | none => simp [ho] at this
    | some o =>
      cases hc : cs[j]? with
      | none => simp [ho, hc] at this
      | some c =>
        simp only [ho, hc, Bool.and_eq_true, List.all_eq_true, List.mem_range] at this
        obtain ⟨h1, h2, h5⟩ := this
        refine ⟨o, c, rfl, rfl, fun k hk => ?_, fun i hi => ?_, fun i hi => ?_⟩
        · have := h1 k hk; simpa [Nat.blt_eq] using this
        · have := h2 i hi
          obtain ⟨k, hk, hki⟩ := List.any_eq_true.1 this
          simp only [Bool.or_eq_true, beq_iff_eq, List.contains_iff_mem] at hki
          exact ⟨k, hk, hki⟩
        · have := h5 i hi
          cases hb : cs[i]? with
          | none => simp [hb] at this
          | some b =>
            simp only [hb, Bool.and_eq_true, Bool.or_eq_true, List.contains_iff_mem] at this
            exact ⟨b, rfl, this⟩
  refine ⟨fun j o hlt ho k hk => ?_, fun j o hlt ho i hi => ?_, fun i j a b hij ha hb => ?_⟩
  · obtain ⟨o', c, h1, h2, h3, _⟩ := hj j hlt
    rw [ho] at h1; cases h1
    exact h3 k hk
  · obtain ⟨o', c, h1, h2, h3, h4, _⟩ := hj j hlt
    rw [ho] at h1; cases h1
    exact h4 i hi
  · obtain ⟨o', c', h1, h2, h3, h4, h7⟩ := hj j (List.getElem?_eq_some_iff.1 hb).1
    rw [hb] at h2; cases h2
    obtain ⟨b', h8, h9⟩ := h7 i hij
    rw [ha] at h8; cases h8
    exact h9
/-- Every order of a region that is well. -/
theorem simAny (hR : VSound P R) {cs : List OP} {prs : List (Nat × Nat)} {A : Nat → List Nat} (hcs : compOPs P ops ops.toList = some cs) (hok : DrawOk ops.toList cs prs A) (fp : Nat → FP)
    (hpr : ∀ i j, (i, j) ∈ prs → (∀ d ∈ (fp i).2, d ∉ (fp j).1) ∧ ∀ d ∈ (fp j).2, d ∉ (fp i).1) (hfp : ∀ i c, cs[i]? = some c → (c.op.cls = 0 → (fp i).1 = []) ∧ (c.op.cls ≠ 2 → (fp i).2 = []) ∧ ∀ d ∈ (fp i).2, d ∈ (fp i).1) (hQ : ∀ a' w' G', Rel w0 L ok0 e' a' w' G' → Q .normal a' w') :
    ∀ (n : Nat) (rem : List Nat) (listed : Array Bool) (e : Env) (a : Act) (w : World) (G : Gh), rem.length = n → rem.Pairwise (· < ·) → (∀ i ∈ rem, i < ops.size) → listed.size = ops.size →
      (∀ i, i < ops.size → (listed.getD i true = false ↔ i ∈ rem)) → (∀ j, j < ops.size → listed.getD j true = true → ∀ i ∈ A j, listed.getD i true = true) →
      Rel w0 L ok0 e a w G → Runs R (rem.map (fun i => (cs.getD i default, fp i))) e e' →
      wpAny P .any ops Q n listed a w := by
  obtain ⟨hl, hsp⟩ := compOPs_spec hcs
  have hl' : cs.length = ops.size := by rw [hl]; simp
  have hget : ∀ i, i < ops.size → ∃ o c, ops[i]? = some o ∧ cs[i]? = some c ∧ cs.getD i default = c ∧ compOP P ops o = some c := fun i hi => by
    obtain ⟨o, c, h1, h2, h3⟩ := hsp i (by simpa using hi)
    exact ⟨o, c, by rw [← Array.getElem?_toList]; exact h1, h2, by rw [List.getD_eq_getElem?_getD, h2]; rfl, h3⟩
  intro n
  induction n with
  | zero =>
    intro rem listed e a w G hn hpw hlt hls hinv hanc h he
    have hnil : rem = [] := List.length_eq_zero_iff.1 hn
    subst hnil
    cases he
    refine ⟨?_, hQ _ _ _ h⟩
    unfold Region.ready
    rw [List.filter_eq_nil_iff]
    intro i hi
    have : listed.getD i true = true := by
      cases hh : listed.getD i true with
      | true => rfl
      | false => exact absurd ((hinv i (List.mem_range.1 hi)).1 hh) (by simp)
    simp [this]
  | succ n ih =>
    intro rem listed e a w G hn hpw hlt hls hinv hanc h he
    have ready_iff : ∀ i, i ∈ Region.ready .any ops listed ↔ i < ops.size ∧ listed.getD i true = false ∧ ∃ o, ops[i]? = some o ∧ ∀ k ∈ edgesOf o, listed.getD k false = true := by
      intro i
      unfold Region.ready
      rw [List.mem_filter, List.mem_range]
      refine and_congr_right fun hi => ?_
      obtain ⟨o, c, h1, _⟩ := hget i hi
      rw [h1]
      simp only [Option.map_some, Option.getD_some, Bool.and_eq_true, Bool.not_eq_true', Option.some.injEq, exists_eq_left']
      refine and_congr_right fun _ => ?_
      rw [← Array.all_toList, List.all_eq_true]
      unfold edgesOf
      simp only [List.mem_map, List.mem_filter, Bool.or_eq_true, Bool.not_eq_true', forall_exists_index, and_imp]
      constructor
      · intro hh k x hx hb hk
        subst hk
        rcases hh x hx with h2 | h2
        · rw [hb] at h2; cases h2
        · exact h2
      · intro hh x hx
        cases hb : Region.binds .any x with
        | false => exact .inl rfl
        | true => exact .inr (hh x.on x hx hb rfl)
    have getTF : ∀ k, k < ops.size → listed.getD k false = listed.getD k true := fun k hk => by
      rw [Array.getD_eq_getD_getElem?, Array.getD_eq_getD_getElem?, Array.getElem?_eq_getElem (by rw [hls]; exact hk)]; rfl
    refine ⟨fun hnil => ?_, fun i hi => ?_⟩
    · exfalso
      cases rem with
      | nil => simp at hn
      | cons j rem =>
        have hj := hlt j (by simp)
        obtain ⟨o, c, h1, h2, _⟩ := hget j hj
        have : j ∈ Region.ready .any ops listed := by
          rw [ready_iff]
          refine ⟨hj, (hinv j hj).2 (by simp), o, h1, fun k hk => ?_⟩
          have hkj := hok.edge j o (by rw [hl']; exact hj) (by rw [Array.getElem?_toList]; exact h1) k hk
          have hko : k < ops.size := by omega
          rw [getTF k hko]
          cases hh : listed.getD k true with
          | true => rfl
          | false =>
            have := (hinv k hko).1 hh
            rcases List.mem_cons.1 this with rfl | hm
            · omega
            · have := (List.pairwise_cons.1 hpw).1 k hm; omega
        rw [hnil] at this; cases this
    · obtain ⟨hio, hil, o, ho, hed⟩ := (ready_iff i).1 hi
      have hirem := (hinv i hio).1 hil
      obtain ⟨o', c, h1, h2, h2', h3⟩ := hget i hio
      rw [ho] at h1; cases h1
      -- the ancestors of what is ready are listed
      have hancl : ∀ k ∈ A i, listed.getD k true = true := by
        intro k hk
        obtain ⟨m, hm, hmk⟩ := hok.anc i o (by rw [hl']; exact hio) (by rw [Array.getElem?_toList]; exact ho) k hk
        have hmi := hok.edge i o (by rw [hl']; exact hio) (by rw [Array.getElem?_toList]; exact ho) m hm
        have hml : listed.getD m true = true := by rw [← getTF m (by omega)]; exact hed m hm
        rcases hmk with rfl | hmk
        · exact hml
        · exact hanc m (by omega) hml k hmk
      obtain ⟨r1, r2, hrem⟩ := List.append_of_mem hirem
      have hpw' := hpw
      rw [hrem, List.pairwise_append] at hpw'
      obtain ⟨p1, p2, p3⟩ := hpw'
      have hr1 : ∀ p ∈ r1, p < i := fun p hp => p3 p hp i (by simp)
      have memr : ∀ p ∈ r1, p ∈ rem := fun p hp => by rw [hrem]; simp [hp]
      have memr2 : ∀ p ∈ r2, p ∈ rem := fun p hp => by rw [hrem]; simp [hp]
      rw [hrem, List.map_append, List.map_cons, h2'] at he
      have hb := bubble he (fun p hp => by
        obtain ⟨j, hj, rfl⟩ := List.mem_map.1 hp
        have hjo := hlt j (memr j hj)
        obtain ⟨_, c', _, q2, q3, _⟩ := hget j hjo
        rw [q3]
        rcases hok.apart j i c' c (hr1 j hj) q2 h2 with hh | ⟨t1, hh⟩
        · have := hancl j hh
          have h5 := (hinv j hjo).2 (memr j hj)
          rw [this] at h5; cases h5
        · obtain ⟨f1, f2, f3⟩ := hfp j c' q2
          obtain ⟨g1, g2, g3⟩ := hfp i c h2
          rcases hh with hh | hh
          · unfold clsFree at hh
            simp only [Bool.or_eq_true, beq_iff_eq, Bool.and_eq_true, bne_iff_ne, ne_eq] at hh
            rcases hh with hh | hh | ⟨hh, hh2⟩
            · refine ⟨t1, fun d hd => ?_, fun d _ hd => ?_⟩
              · have := f3 d hd; rw [f1 hh] at this; cases this
              · simp only at hd; rw [f1 hh] at hd; cases hd
            · refine ⟨t1, fun d _ hd => ?_, fun d hd => ?_⟩
              · simp only at hd; rw [g1 hh] at hd; cases hd
              · have := g3 d hd; rw [g1 hh] at this; cases this
            · refine ⟨t1, fun d hd => ?_, fun d hd => ?_⟩
              · simp only at hd; rw [f2 hh] at hd; cases hd
              · simp only at hd; rw [g2 hh2] at hd; cases hd
          · exact ⟨t1, (hpr j i hh).1, (hpr j i hh).2⟩)
      rw [← List.map_append] at hb
      generalize hcc : ((c, fp i) : OP × FP) = cf at hb
      cases hb with
      | cons he1 he2 =>
        rename_i c0 e1
        obtain ⟨hc0, _⟩ := Prod.mk.inj hcc
        subst hc0
        refine simOP hR h ho h3 he1 (fun a' w' G' h' => ?_)
        have hset : ∀ k, k < ops.size → (listed.setIfInBounds i true).getD k true = if i = k then true else listed.getD k true := by
          intro k hk
          rw [Array.getD_eq_getD_getElem?, Array.getElem?_setIfInBounds, Array.getD_eq_getD_getElem?]
          by_cases hik : i = k
          · subst hik; simp [hls, hio]
          · simp [hik]
        refine ih (r1 ++ r2) _ e1 a' w' G' ?_ ?_ ?_ ?_ ?_ ?_ h' he2
        · rw [hrem] at hn; simp at hn ⊢; omega
        · rw [List.pairwise_append]
          exact ⟨p1, (List.pairwise_cons.1 p2).2, fun x hx y hy => p3 x hx y (by simp [hy])⟩
        · intro k hk
          rcases List.mem_append.1 hk with hk | hk
          · exact hlt k (memr k hk)
          · exact hlt k (memr2 k hk)
        · simp [hls]
        · intro k hk
          rw [hset k hk]
          by_cases hik : i = k
          · subst hik
            simp only [if_true]
            refine ⟨fun hh => (by cases hh), fun hh => ?_⟩
            rcases List.mem_append.1 hh with hh | hh
            · have := hr1 i hh; omega
            · have := (List.pairwise_cons.1 p2).1 i hh; omega
          · rw [if_neg hik, hinv k hk, hrem]
            simp only [List.mem_append, List.mem_cons]
            constructor
            · rintro (hh | hh | hh)
              · exact .inl hh
              · exact absurd hh.symm hik
              · exact .inr hh
            · rintro (hh | hh)
              · exact .inl hh
              · exact .inr (.inr hh)
        · intro j hj hjl k hk
          have key : listed.getD k true = true → (listed.setIfInBounds i true).getD k true = true := fun hh => by
            rcases Nat.lt_or_ge k ops.size with hks | hks
            · rw [hset k hks]; split
              · rfl
              · exact hh
            · rw [Array.getD_eq_getD_getElem?, Array.getElem?_eq_none (by simp [hls]; exact hks)]; rfl
          rw [hset j hj] at hjl
          by_cases hij : i = j
          · subst hij; exact key (hancl k hk)
          · rw [if_neg hij] at hjl; exact key (hanc j hj hjl k hk)
/-- A region whose order is drawn. -/
theorem sim_drawn (hm : P.follows .mixedOrders = true) (hR : VSound P R) (h : Rel w0 L ok0 e a w G) {id : Nat} {cs : List OP} {prs : List (Nat × Nat)} {fs : List FP} (hcs : compOPs P ops ops.toList = some cs) (hok : drawOk ops.toList cs prs = true)
    (he : evalD R cs e = some (e', fs)) (hprs : prs.all (okPair fs) = true) (hQ : ∀ a' w' G', Rel w0 L ok0 e' a' w' G' → Q .normal a' w') : (Code.region id ops true).wp P Q a w := by
  have hok' := drawOk_spec hok
  obtain ⟨hl, hsp⟩ := compOPs_spec hcs
  have hl' : cs.length = ops.size := by rw [hl]; simp
  obtain ⟨hlen, hr⟩ := evalD_runs he
  refine wp_region_any hm ?_
  refine simAny hR hcs hok' (fun i => fs.getD i ([], [])) (fun i j hij => ?_) (fun i c hc => ?_) hQ ops.size (List.range ops.size) _ e a _ G (by simp) List.pairwise_lt_range (fun i hi => List.mem_range.1 hi) (by simp) (fun i hi => ?_) (fun j hj hh => ?_) h.drew ?_
  · have := List.all_eq_true.1 hprs _ hij
    unfold okPair at this
    simp only [Bool.and_eq_true] at this
    exact ⟨disj_spec this.1, disj_spec this.2⟩
  · -- what the operation looks at
    have key : ∀ {cs : List OP} {e e' : Env} {fs : List FP}, evalD R cs e = some (e', fs) → ∀ i c, cs[i]? = some c → ∃ e1, fs.getD i ([], []) = c.fp e1 := by
      intro cs
      induction cs with
      | nil => intro e e' fs _ i c hc; simp at hc
      | cons c0 cs ih =>
        intro e e' fs he i c hc
        simp only [evalD] at he
        cases h1 : evalOP R e c0 with
        | none => simp [h1] at he
        | some e1 =>
          simp only [h1] at he
          cases h2 : evalD R cs e1 with
          | none => simp [h2] at he
          | some q =>
            obtain ⟨e2, fs'⟩ := q
            simp only [h2, Option.some.injEq, Prod.mk.injEq] at he
            obtain ⟨rfl, rfl⟩ := he
            cases i with
            | zero => simp at hc; subst hc; exact ⟨e, rfl⟩
            | succ i => simpa using ih h2 i c (by simpa using hc)
    obtain ⟨e1, he1⟩ := key he i c hc
    simp only [he1]
    refine ⟨fun h0 => by simp [OP.fp, O.keys, h0], fun h0 => by simp [OP.fp, O.wr, h0], fun d hd => wr_sub hd⟩
  · simp [Array.getElem?_replicate, hi]
  · simp [Array.getElem?_replicate, hj] at hh
  · have : (List.range ops.size).map (fun i => (cs.getD i default, fs.getD i ([], []))) = cs.zip fs := by
      apply List.ext_getElem?
      intro i
      rw [List.getElem?_map]
      by_cases hi : i < ops.size
      · have hi1 : i < cs.length := by omega
        have hi2 : i < fs.length := by omega
        rw [List.getElem?_range hi, (List.getElem?_zip_eq_some (z := (cs[i], fs[i]))).2 ⟨List.getElem?_eq_getElem hi1, List.getElem?_eq_getElem hi2⟩]
        simp [List.getD_eq_getElem?_getD, List.getElem?_eq_getElem hi1, List.getElem?_eq_getElem hi2]
      · rw [List.getElem?_eq_none (by simpa using Nat.le_of_not_lt hi), List.getElem?_eq_none (by simp; omega)]; rfl
    rw [this]; exact hr
end
end Go.Nv
/- BY VALUE, with trees. Part 43: at a loop's head names are told anew. -/
namespace Go.Nv
variable [Dr]
open Go.RowKit
/-! ### A header that leads nowhere is told as a row -/
def Env.rowStep (e : Env) (p : Nat × Nat × Nat) : Env := match e.tmps.getD p.1 .unk with
  | .nil => match e.newRow (some p.1) p.2.1 p.2.2 [] with
    | some e1 => e1
    | none => e
  | .ref d g v q j => if d = p.1 ∧ q = [] ∧ j = 0 then e else match e.take1 (.ref d g v q j) with
    | some (.row E c l, e1) => (match e1.newRow (some p.1) E c l with
      | some e2 => e2
      | none => e)
    | _ => e
  | _ => e
def Env.bxStep (e : Env) (p : Nat × Nat × Nat × Nat) : Env := match e.objs[p.1]? with
  | some o => match o.k with
    | .box l => match l[p.2.1]? with
      | some .nil => e.setObj p.1 ⟨o.gen, addRec o.vs [] p.2.1 1, .box (l.set p.2.1 (.row p.2.2.1 p.2.2.2 []))⟩
      | _ => e
    | _ => e
  | none => e
/-! ### Names -/
def normVs (np : Nat) (rp : List Nat) (d : Nat) (o : AObj) : List (List Rec) := if (decide (d < np) && rp.contains d) = true then o.vs.map (fun l => l.filter fun r => r.1 == [] && r.2.2 != 0) else o.vs.map fun _ => []
def normObj (np : Nat) (rp : List Nat) (d : Nat) (o : AObj) : AObj := ⟨if d < np then o.gen else 0, normVs np rp d o, o.k⟩
def Env.ren0 (np : Nat) (rp : List Nat) (e : Env) : AV → AV
  | .ref d g v q j => match e.obj d g with
    | some o => if o.ver q j = v then .ref d (normObj np rp d o).gen ((normObj np rp d o).ver q j) q j else .unk
    | none => .unk
  | .ptr d g v q j => match e.obj d g with
    | some o => match q with
      | [] => .ptr d (normObj np rp d o).gen 0 [] j
      | s :: q' => if o.ver q' s.1 = v then .ptr d (normObj np rp d o).gen ((normObj np rp d o).ver q' s.1) (s :: q') j else .unk
    | none => .unk
  | .mref d g => match e.obj d g with
    | some o => .mref d (normObj np rp d o).gen
    | none => .unk
  | A => A
def Env.ren1 (np : Nat) (rp : List Nat) (e : Env) : AV → AV
  | .agg l => .agg (l.map (e.ren0 np rp))
  | A => e.ren0 np rp A
def Env.ren (np : Nat) (rp : List Nat) (e : Env) : AV → AV
  | .tup l => .tup (l.map (e.ren1 np rp))
  | .fnp f l => .fnp f (l.map (e.ren1 np rp))
  | A => e.ren1 np rp A
def keepT (np : Nat) (rp : List Nat) (e : Env) (keep : List Nat) : Nat → List AV → List AV
  | _, [] => []
  | i, A :: l => (if keep.contains i = true then e.ren np rp A else .unk) :: keepT np rp e keep (i + 1) l
def keepO (np : Nat) (rp : List Nat) (ks : List Nat) : Nat → List AObj → List AObj
  | _, [] => []
  | i, o :: l => (if (decide (i < np) || ks.contains i) = true then normObj np rp i o else ⟨0, [], .dead⟩) :: keepO np rp ks (i + 1) l
def Env.norm (np : Nat) (rp keep : List Nat) (e : Env) : Env :=
  ⟨keepT np rp e keep 0 e.tmps, keepO np rp ((keepT np rp e keep 0 e.tmps).flatMap keysA) 0 e.objs⟩
def Env.clr (np : Nat) (rp keep : List Nat) (rows : List (Nat × Nat × Nat)) (bxs : List (Nat × Nat × Nat × Nat)) (e : Env) : Env := (bxs.foldl Env.bxStep (rows.foldl Env.rowStep e)).norm np rp keep
/-- What is known of what was lent: by names that stay. -/
def PinsOk (np : Nat) (rp : List Nat) (L : Lend) : Prop := ∀ p ∈ L.pins, ∃ k, k < np ∧ ((p.2 = .ref k 1 0 [] 0 ∧ rp.contains k = true) ∨ p.2 = .ptr k 1 0 [] 0)
section
variable {P : Program} {w0 : World} {L : Lend} {ok0 : Nat → Nat → Prop} {e : Env} {a : Act} {w : World} {G : Gh}
omit [Dr] in
theorem Act.put_same {a : Act} {t : Nat} : a.put (some t) (a.tmps.getD t undef) = a := by
  have : a.tmps.setIfInBounds t (a.tmps.getD t undef) = a.tmps := by
    apply Array.ext (by simp)
    intro i h1 h2
    rw [Array.getElem_setIfInBounds h2]
    split
    · rename_i h; subst h; simp [Array.getD_eq_getD_getElem?, Array.getElem?_eq_getElem h2]
    · rfl
  cases a
  simp only [Act.put] at this ⊢
  simp_all
theorem Rel.rowStep (h : Rel w0 L ok0 e a w G) (p : Nat × Nat × Nat) : ∃ G', Rel w0 L ok0 (e.rowStep p) a w G' := by
  obtain ⟨t, E, c⟩ := p
  unfold Env.rowStep
  cases hA : e.tmps.getD t .unk <;> simp only <;> try exact ⟨G, h⟩
  · -- nil
    by_cases hd : t < e.objs.length
    case neg => simp only [Env.newRow, Env.make]; rw [if_neg hd]; exact ⟨G, h⟩
    have ht : t < e.tmps.length := by
      rcases Nat.lt_or_ge t e.tmps.length with ht | ht
      · exact ht
      · simp [List.getD_eq_getElem?_getD, List.getElem?_eq_none ht] at hA
    have hv := h.tmps t ht
    rw [hA] at hv
    have hv' : a.tmps.getD t undef = .slice none 0 0 := inv_nil hv
    obtain ⟨G2, r1, r2, r3⟩ := newNil_rep h hd (E := E) (c := c)
    simp only [Env.newRow, make_some hd]
    rw [← hv'] at r3
    have := r1.put (some t) r3.toT
    rw [Act.put_same] at this
    exact ⟨G2, this⟩
  · rename_i d g v q j
    by_cases hq : d = t ∧ q = [] ∧ j = 0
    · rw [if_pos hq]; exact ⟨G, h⟩
    rw [if_neg hq]
    cases ht1 : e.take1 (.ref d g v q j) with
    | none => exact ⟨G, h⟩
    | some r =>
      obtain ⟨B, e1⟩ := r
      cases B <;> simp only <;> try exact ⟨G, h⟩
      rename_i E' c' l
      have ht : t < e.tmps.length := by
        rcases Nat.lt_or_ge t e.tmps.length with ht | ht
        · exact ht
        · simp [List.getD_eq_getElem?_getD, List.getElem?_eq_none ht] at hA
      have hv := h.tmps t ht
      rw [hA] at hv
      obtain ⟨G1, r1, r2, r3, _⟩ := take_rep h (K := e.objs.length) (kk := 0) (Nat.le_refl _) (show RepT0 w G e (a.tmps.getD t undef) (.ref d g v q j) from hv) ht1
      have hlen : e1.objs.length = e.objs.length := r3.len
      by_cases hd : t < e1.objs.length
      case neg => simp only [Env.newRow, Env.make]; rw [if_neg hd]; exact ⟨G, h⟩
      simp only [Env.newRow, make_some hd]
      obtain ⟨G2, s1, s2, s3⟩ := rows_rep r1 (K := e.objs.length) (d := t) (rs := [.row E' c' l]) hd (by omega) (fun r hr => by
        have : r = 0 := by simp at hr; exact hr
        subst this
        exact ⟨_, r2⟩) rfl
      have hat := Env.setObj_at (e := e1) (o := ⟨e1.gen t + 1, List.replicate 1 [], .val [.row E' c' l]⟩) hd t
      rw [if_pos rfl] at hat
      have := s1.put (some t) (ref_rep (n := 1) hat rfl (s3 0 _ _ _ _ (by simp) r2)).toT
      rw [Act.put_same] at this
      exact ⟨G2, this⟩
theorem Rel.bxStep (h : Rel w0 L ok0 e a w G) (p : Nat × Nat × Nat × Nat) : ∃ G', Rel w0 L ok0 (e.bxStep p) a w G' := by
  obtain ⟨d, off, E, c⟩ := p
  unfold Env.bxStep
  cases ho : e.objs[d]? with
  | none => exact ⟨G, h⟩
  | some o =>
    cases hk : o.k <;> simp only [hk] <;> try exact ⟨G, h⟩
    rename_i l
    cases hl : l[off]? with
    | none => exact ⟨G, h⟩
    | some C =>
      cases C <;> simp only <;> try exact ⟨G, h⟩
      have hoff : off < l.length := lt_of_get hl
      have hd := lt_obj ho
      have hO := h.objs d hd
      rw [Env.kind_of ho, hk] at hO
      obtain ⟨o1, vs, T, o2, o3, o4⟩ := hO
      have hc := o4 off hoff
      rw [getD_of hl] at hc
      have hv : vs.getD off undef = .slice none 0 0 := by
        have := hc.pureInv rfl
        generalize vs.getD off undef = v at this
        cases this; rfl
      let G' : Gh := { G with h := fun d1 q1 j1 => if d1 = d ∧ q1 = [] ∧ j1 = off then .slice none 0 0 else G.h d1 q1 j1 }
      have t : Turn e d o l [] l (l.set off (.row E c [])) off 1 (addRec o.vs [] off 1) false false := ⟨ho, by rw [hk]; rfl, rfl, by simp, by omega, fun i hi hne => getD_set_ne _ _ _ _ _ (fun hh => hne (by omega)), h.vlen d o l ho (by rw [hk]; rfl), .inl ⟨rfl, fun hh => absurd rfl hh⟩⟩
      have hs : Stays w w G G' e.objs.length d [] off 1 := by
        refine ⟨fun _ _ hh => hh, fun _ _ _ => SameAt.refl, fun d1 q1 j1 _ hn => ⟨?_, fun _ hb => hb⟩, fun _ _ _ hb => hb, fun _ _ => rfl, fun _ _ _ _ => rfl, fun _ _ _ _ _ _ _ _ => rfl, fun _ _ _ _ _ => rfl⟩
        simp only [G']
        rw [if_neg (fun hh => hn ⟨hh.1, off, Nat.le_refl _, Nat.lt_succ_self _, .inl ⟨hh.2.1, hh.2.2⟩⟩)]
      have hR := h.turn t hs h.fr h.okb h.ok0 h.own (fun _ lb _ vs T hh => ⟨vs, hh, rfl, fun _ _ => rfl⟩) (fun s q' hh => by cases hh)
        (fun i h1 h2 h3 => by
          obtain rfl : i = off := by omega
          have e1 : cellV w G' d o.k [] i = vs.getD i undef := by
            rw [hk]
            simp only [cellV, G']
            rw [blk_cell o2 i (by omega)]; rfl
          rw [e1, hv, getD_set_eq _ _ _ _ hoff]
          exact .row0 (by simp only [G']; rw [if_pos ⟨trivial, trivial, trivial⟩]))
        (fun i B _ _ h3 _ => by cases h3.1) (fun hh => by cases hh)
      have henv : t.env = e.setObj d ⟨o.gen, addRec o.vs [] off 1, .box (l.set off (.row E c []))⟩ := by
        simp only [Turn.env, Turn.obj, hk, OK.withCells, setE]
      rw [henv] at hR
      exact ⟨G', hR⟩
omit [Dr] in
theorem keepT_get (np : Nat) (rp : List Nat) (e : Env) (keep : List Nat) : ∀ (l : List AV) (i t : Nat), t < l.length → (keepT np rp e keep i l).getD t .unk = if keep.contains (i + t) = true then e.ren np rp (l.getD t .unk) else .unk
  | [], i, t, h => by simp at h
  | A :: l, i, 0, h => by simp [keepT]
  | A :: l, i, t + 1, h => by
    have := keepT_get np rp e keep l (i + 1) t (by simpa using h)
    simp only [keepT, List.getD_cons_succ, this]
    rw [show i + 1 + t = i + (t + 1) by omega]
omit [Dr] in
theorem keepT_len (np : Nat) (rp : List Nat) (e : Env) (keep : List Nat) : ∀ (l : List AV) (i : Nat), (keepT np rp e keep i l).length = l.length
  | [], _ => rfl
  | _ :: l, i => by simp [keepT, keepT_len np rp e keep l (i + 1)]
omit [Dr] in
theorem keepO_get (np : Nat) (rp ks : List Nat) : ∀ (l : List AObj) (i t : Nat), (keepO np rp ks i l)[t]? = (l[t]?).map fun o => if (decide (i + t < np) || ks.contains (i + t)) = true then normObj np rp (i + t) o else ⟨0, [], .dead⟩
  | [], i, t => by simp [keepO]
  | o :: l, i, 0 => by simp [keepO]
  | o :: l, i, t + 1 => by
    simp only [keepO, List.getElem?_cons_succ, keepO_get np rp ks l (i + 1) t]
    rw [show i + 1 + t = i + (t + 1) by omega]
omit [Dr] in
theorem keepO_len (np : Nat) (rp ks : List Nat) : ∀ (l : List AObj) (i : Nat), (keepO np rp ks i l).length = l.length
  | [], _ => rfl
  | _ :: l, i => by simp [keepO, keepO_len np rp ks l (i + 1)]
omit [Dr] in
theorem norm_objs {np : Nat} {rp keep : List Nat} (d : Nat) : ∃ kept : Bool, (e.norm np rp keep).objs[d]? = (e.objs[d]?).map (fun o => if kept = true then normObj np rp d o else ⟨0, [], .dead⟩) ∧ (d < np → kept = true) := by
  refine ⟨decide (d < np) || ((keepT np rp e keep 0 e.tmps).flatMap keysA).contains d, ?_, fun hd => by simp [hd]⟩
  simp only [Env.norm, keepO_get, Nat.zero_add]
omit [Dr] in
theorem norm_len {np : Nat} {rp keep : List Nat} : (e.norm np rp keep).objs.length = e.objs.length := keepO_len _ _ _ _ _
omit [Dr] in
theorem ver_nil {g : Nat} {vs : List (List Rec)} {k : OK} (q : Path) (j : Nat) : AObj.ver ⟨g, vs.map fun _ => [], k⟩ q j = 0 := by
  simp only [AObj.ver, List.getD_eq_getElem?_getD, List.getElem?_map]
  cases vs[top q j]? <;> rfl
omit [Dr] in
theorem ver_root {np : Nat} {rp : List Nat} {d : Nat} {o : AObj} (hd : d < np) (hr : rp.contains d = true) (j : Nat) : (normObj np rp d o).ver [] j = o.ver [] j := by
  have hc : (decide (d < np) && rp.contains d) = true := by simp [hd, List.contains_iff_mem.1 hr]
  simp only [normObj, normVs, AObj.ver]
  rw [if_pos hc]
  simp only [List.getD_eq_getElem?_getD, List.getElem?_map, top]
  cases o.vs[j]? with
  | none => rfl
  | some l =>
    simp only [Option.map_some, Option.getD_some, List.filter_filter]
    congr 1
    apply List.filter_congr
    intro r _
    simp only [covers]
    by_cases h1 : r.1 == []
    · by_cases h2 : r.2.2 = 0
      · have : ¬ (r.2.1 ≤ j ∧ j < r.2.1 + r.2.2) := by omega
        have : (decide (r.2.1 ≤ j) && decide (j < r.2.1 + r.2.2)) = false := by
          rw [Bool.and_eq_false_iff]; simp; omega
        simp [this]
      · simp [h1, h2]
    · simp [h1]
omit [Dr] in
/-- What is told of a place, when names are told anew. -/
theorem ren0_rep {np : Nat} {rp keep : List Nat} {v : Value} {A : AV} (h : RepT0 w G e v A) : RepT0 w G (e.norm np rp keep) v (e.ren0 np rp A) := by
  have hlen : (e.norm np rp keep).objs.length = e.objs.length := norm_len
  have hver0 : ∀ d (o : AObj), ¬ d < np → ∀ q j, (normObj np rp d o).ver q j = 0 := fun d o hd q j => by
    have e1 : (normObj np rp d o).vs = o.vs.map fun _ => [] := by simp only [normObj, normVs]; rw [if_neg (by simp [hd])]
    have e2 : normObj np rp d o = ⟨(normObj np rp d o).gen, o.vs.map fun _ => [], (normObj np rp d o).k⟩ := by rw [← e1]
    rw [e2]; exact ver_nil q j
  have hgen : ∀ d o, e.objs[d]? = some o → (normObj np rp d o).gen ≤ (e.norm np rp keep).gen d := fun d o ho => by
    obtain ⟨kept, k1, k2⟩ := norm_objs (e := e) (np := np) (rp := rp) (keep := keep) d
    rw [ho] at k1
    simp only [Env.gen, k1, Option.map_some]
    by_cases hk : kept = true
    · rw [if_pos hk]; exact Nat.le_refl _
    · have hd : ¬ d < np := fun hh => hk (k2 hh)
      rw [if_neg hk]
      simp only [normObj, if_neg hd]; exact Nat.le_refl _
  have hobj : ∀ d o o', e.objs[d]? = some o → (e.norm np rp keep).objs[d]? = some o' → o' = normObj np rp d o ∨ (o' = ⟨0, [], .dead⟩ ∧ ¬ d < np) := fun d o o' ho ho' => by
    obtain ⟨kept, k1, k2⟩ := norm_objs (e := e) (np := np) (rp := rp) (keep := keep) d
    rw [ho, ho'] at k1
    simp only [Option.map_some, Option.some.injEq] at k1
    by_cases hk : kept = true
    · rw [if_pos hk] at k1; exact .inl k1
    · rw [if_neg hk] at k1; exact .inr ⟨k1, fun hh => hk (k2 hh)⟩
  have hlive : ∀ d g o q j, e.obj d g = some o → Lives (e.norm np rp keep) d (normObj np rp d o).gen ((normObj np rp d o).ver q j) q j := fun d g o q j ho => by
    obtain ⟨o1, o2⟩ := Env.obj_some.1 ho
    refine ⟨by rw [hlen]; exact lt_obj o1, hgen d o o1, fun o' ho' => ?_⟩
    rcases hobj d o o' o1 (Env.obj_some.1 ho').1 with rfl | ⟨rfl, hd⟩
    · exact Nat.le_refl _
    · rw [hver0 d o hd]; exact Nat.zero_le _
  have hcell : ∀ d g o q j A, e.obj d g = some o → (e.norm np rp keep).cellR d (normObj np rp d o).gen ((normObj np rp d o).ver q j) q j = some A → e.cellR d g (o.ver q j) q j = some A := fun d g o q j A ho hA => by
    obtain ⟨o1, o2⟩ := Env.obj_some.1 ho
    obtain ⟨o', l, x1, x2, x3, x4, x5⟩ := Env.cellR_some.1 hA
    rcases hobj d o o' o1 x1 with rfl | ⟨rfl, hd⟩
    · exact Env.cellR_some.2 ⟨o, l, o1, o2, rfl, x4, x5⟩
    · cases x4
  cases A
  case ref d g n q j =>
    simp only [Env.ren0]
    cases ho : e.obj d g with
    | none => exact RepR.unk _
    | some o =>
      simp only
      by_cases hv : o.ver q j = n
      · rw [if_pos hv]
        subst hv
        exact ⟨hlive d g o q j ho, fun E c l hc => h.2.1 E c l (hcell d g o q j _ ho hc), fun l hc => h.2.2.1 l (hcell d g o q j _ ho hc), h.2.2.2⟩
      · rw [if_neg hv]; exact RepR.unk _
  case ptr d g n q j =>
    simp only [Env.ren0]
    cases ho : e.obj d g with
    | none => exact RepR.unk _
    | some o =>
      obtain ⟨o1, o2⟩ := Env.obj_some.1 ho
      obtain ⟨r1, b, oo, r2, r3⟩ := h
      cases q with
      | nil =>
        refine ⟨⟨by rw [hlen]; exact lt_obj o1, hgen d o o1⟩, b, oo, r2, fun l hl => ?_⟩
        obtain ⟨o', x1, x2, x3⟩ := Env.cellsP_some.1 hl
        rcases hobj d o o' o1 x1 with rfl | ⟨rfl, hd⟩
        · refine r3 l (Env.cellsP_some.2 ⟨o, o1, o2, ?_⟩)
          rcases x3 with ⟨x4, x5⟩ | ⟨s, q', x4, _⟩
          · exact .inl ⟨rfl, x5⟩
          · cases x4
        · rcases x3 with ⟨x4, x5⟩ | ⟨s, q', x4, _⟩
          · cases x5
          · cases x4
      | cons s q' =>
        simp only
        by_cases hv : o.ver q' s.1 = n
        · rw [if_pos hv]
          subst hv
          refine ⟨hlive d g o q' s.1 ho, b, oo, r2, fun l hl => ?_⟩
          obtain ⟨o', x1, x2, x3⟩ := Env.cellsP_some.1 hl
          rcases hobj d o o' o1 x1 with rfl | ⟨rfl, hd⟩
          · refine r3 l (Env.cellsP_some.2 ⟨o, o1, o2, ?_⟩)
            rcases x3 with ⟨x4, _⟩ | ⟨s', q'', x4, x5, l0, x6, x7⟩
            · cases x4
            · obtain ⟨rfl, rfl⟩ := List.cons.inj x4
              exact .inr ⟨s, q', rfl, rfl, l0, x6, x7⟩
          · rcases x3 with ⟨x4, _⟩ | ⟨s', q'', x4, x5, l0, x6, x7⟩
            · cases x4
            · cases x6
        · rw [if_neg hv]; exact RepR.unk _
  case mref d g =>
    simp only [Env.ren0]
    cases ho : e.obj d g with
    | none => exact RepR.unk _
    | some o =>
      obtain ⟨o1, o2⟩ := Env.obj_some.1 ho
      obtain ⟨r1, r2, r, r3, r4⟩ := h
      exact ⟨by rw [hlen]; exact r1, hgen d o o1, r, r3, fun o' _ => r4 o ho⟩
  all_goals exact h
omit [Dr] in
theorem ren1_rep {np : Nat} {rp keep : List Nat} {v : Value} {A : AV} (h : RepT1 w G e v A) : RepT1 w G (e.norm np rp keep) v (e.ren1 np rp A) := by
  cases A
  case agg l =>
    obtain ⟨vs, h1, h2, h3⟩ := h
    refine ⟨vs, h1, by simpa using h2, fun j hj => ?_⟩
    have hj' : j < l.length := by simpa using hj
    have e1 : (l.map (e.ren0 np rp)).getD j .unk = e.ren0 np rp (l.getD j .unk) := by simp [List.getD_eq_getElem?_getD, List.getElem?_eq_getElem hj']
    rw [e1]
    exact ren0_rep (h3 j hj')
  case ref d g v q j =>
    have := ren0_rep (np := np) (rp := rp) (keep := keep) (show RepT0 w G e _ (.ref d g v q j) from h)
    simp only [Env.ren1]
    revert this
    generalize hX : e.ren0 np rp (.ref d g v q j) = X
    intro this
    cases X <;> first | exact this | (exfalso; revert hX; simp only [Env.ren0]; split <;> (try split) <;> intro hX <;> cases hX)
  case ptr d g v q j =>
    have := ren0_rep (np := np) (rp := rp) (keep := keep) (show RepT0 w G e _ (.ptr d g v q j) from h)
    simp only [Env.ren1]
    revert this
    generalize hX : e.ren0 np rp (.ptr d g v q j) = X
    intro this
    cases X <;> first | exact this | (exfalso; revert hX; simp only [Env.ren0]; split <;> (try split) <;> (try split) <;> intro hX <;> cases hX)
  case mref d g =>
    have := ren0_rep (np := np) (rp := rp) (keep := keep) (show RepT0 w G e _ (.mref d g) from h)
    simp only [Env.ren1]
    revert this
    generalize hX : e.ren0 np rp (.mref d g) = X
    intro this
    cases X <;> first | exact this | (exfalso; revert hX; simp only [Env.ren0]; split <;> intro hX <;> cases hX)
  all_goals exact h
omit [Dr] in
theorem ren1_kind {np : Nat} {rp : List Nat} {A : AV} (h : ∀ l, A ≠ .tup l) (h' : ∀ f l, A ≠ .fnp f l) : (∀ l, e.ren1 np rp A ≠ .tup l) ∧ ∀ f l, e.ren1 np rp A ≠ .fnp f l := by
  cases A
  case tup l => exact absurd rfl (h l)
  case fnp f l => exact absurd rfl (h' f l)
  case ref d g v q j =>
    simp only [Env.ren1, Env.ren0]
    constructor <;> intros <;> split <;> (try split) <;> intro hh <;> cases hh
  case ptr d g v q j =>
    simp only [Env.ren1, Env.ren0]
    constructor <;> intros <;> split <;> (try split) <;> (try split) <;> intro hh <;> cases hh
  case mref d g =>
    simp only [Env.ren1, Env.ren0]
    constructor <;> intros <;> split <;> intro hh <;> cases hh
  all_goals exact ⟨fun l hh => (by cases hh), fun f l hh => (by cases hh)⟩
omit [Dr] in
theorem RepT1.toT' {e : Env} {v : Value} {A : AV} (h : RepT1 w G e v A) (h1 : ∀ l, A ≠ .tup l) (h2 : ∀ f l, A ≠ .fnp f l) : RepT w G e v A := by
  cases A
  case tup l => exact absurd rfl (h1 l)
  case fnp f l => exact absurd rfl (h2 f l)
  all_goals exact h
omit [Dr] in
theorem RepT.t1' {e : Env} {v : Value} {A : AV} (h : RepT w G e v A) (h1 : ∀ l, A ≠ .tup l) (h2 : ∀ f l, A ≠ .fnp f l) : RepT1 w G e v A := by
  cases A
  case tup l => exact absurd rfl (h1 l)
  case fnp f l => exact absurd rfl (h2 f l)
  all_goals exact h
omit [Dr] in
theorem ren_rep {np : Nat} {rp keep : List Nat} {v : Value} {A : AV} (h : RepT w G e v A) : RepT w G (e.norm np rp keep) v (e.ren np rp A) := by
  by_cases ht : ∃ l, A = .tup l
  · obtain ⟨l, rfl⟩ := ht
    obtain ⟨vs, h1, h2, h3⟩ := h
    refine ⟨vs, h1, by simpa using h2, fun j hj => ?_⟩
    have hj' : j < l.length := by simpa using hj
    have e1 : (l.map (e.ren1 np rp)).getD j .unk = e.ren1 np rp (l.getD j .unk) := by simp [List.getD_eq_getElem?_getD, List.getElem?_eq_getElem hj']
    rw [e1]
    exact ren1_rep (h3 j hj')
  by_cases hf : ∃ f l, A = .fnp f l
  · obtain ⟨f, l, rfl⟩ := hf
    obtain ⟨vs, h1, h2, h3⟩ := h
    refine ⟨vs, h1, by simpa using h2, fun j hj => ?_⟩
    have hj' : j < l.length := by simpa using hj
    have e1 : (l.map (e.ren1 np rp)).getD j .unk = e.ren1 np rp (l.getD j .unk) := by simp [List.getD_eq_getElem?_getD, List.getElem?_eq_getElem hj']
    rw [e1]
    exact ren1_rep (h3 j hj')
  have h1 : ∀ l, A ≠ .tup l := fun l hh => ht ⟨l, hh⟩
  have h2 : ∀ f l, A ≠ .fnp f l := fun f l hh => hf ⟨f, l, hh⟩
  have e1 : e.ren np rp A = e.ren1 np rp A := by cases A <;> first | rfl | exact absurd rfl (h1 _) | exact absurd rfl (h2 _ _)
  rw [e1]
  obtain ⟨k1, k2⟩ := ren1_kind (e := e) (np := np) (rp := rp) h1 h2
  exact (ren1_rep (h.t1' h1 h2)).toT' k1 k2
theorem Rel.norm {np : Nat} {rp : List Nat} (h : Rel w0 L ok0 e a w G) (hp : PinsOk np rp L) (keep : List Nat) : Rel w0 L ok0 (e.norm np rp keep) a w G := by
  have hlen : (e.norm np rp keep).objs.length = e.objs.length := norm_len
  refine ⟨h.fr, ?_, fun t ht => ?_, h.defers, h.okb, h.okm, h.ok0, h.own, fun d hd => ?_, fun d o l ho hl => ?_, fun p hpp => ?_⟩
  · rw [h.size]; exact (keepT_len _ _ _ _ _ _).symm
  · have ht' : t < e.tmps.length := by
      have : (e.norm np rp keep).tmps.length = e.tmps.length := keepT_len _ _ _ _ _ _
      omega
    have : (e.norm np rp keep).tmps.getD t .unk = _ := keepT_get np rp e keep e.tmps 0 t ht'
    rw [this]
    split
    · exact ren_rep (h.tmps t ht')
    · exact RepR.unk _
  · rw [hlen] at hd
    obtain ⟨kept, k1, k2⟩ := norm_objs (e := e) (np := np) (rp := rp) (keep := keep) d
    rw [List.getElem?_eq_getElem hd] at k1
    have ho : e.objs[d]? = some e.objs[d] := List.getElem?_eq_getElem hd
    have := h.objs d hd
    rw [Env.kind_of ho] at this
    simp only [Option.map_some] at k1
    rw [Env.kind_of k1]
    by_cases hk : kept = true
    · rw [if_pos hk]; exact this
    · rw [if_neg hk]; trivial
  · obtain ⟨kept, k1, k2⟩ := norm_objs (e := e) (np := np) (rp := rp) (keep := keep) d
    rw [ho] at k1
    cases hoo : e.objs[d]? with
    | none => simp [hoo] at k1
    | some o0 =>
      rw [hoo] at k1
      simp only [Option.map_some, Option.some.injEq] at k1
      by_cases hk : kept = true
      · rw [if_pos hk] at k1
        subst k1
        have := h.vlen d o0 l hoo hl
        simp only [normObj, normVs]
        split <;> simpa using this
      · rw [if_neg hk] at k1
        subst k1; cases hl
  · obtain ⟨k, hk, hcase⟩ := hp p hpp
    have h0 := h.pins p hpp
    have hgk : (e.norm np rp keep).gen k = e.gen k := by
      obtain ⟨kept, k1, k2⟩ := norm_objs (e := e) (np := np) (rp := rp) (keep := keep) k
      simp only [Env.gen, k1]
      cases e.objs[k]? with
      | none => rfl
      | some o => simp only [Option.map_some, k2 hk, if_true, normObj, if_pos hk]
    have hok : ∀ o', (e.norm np rp keep).objs[k]? = some o' → ∃ o, e.objs[k]? = some o ∧ o' = normObj np rp k o := fun o' ho' => by
      obtain ⟨kept, k1, k2⟩ := norm_objs (e := e) (np := np) (rp := rp) (keep := keep) k
      rw [ho'] at k1
      cases hoo : e.objs[k]? with
      | none => simp [hoo] at k1
      | some o0 =>
        rw [hoo] at k1
        simp only [Option.map_some, Option.some.injEq, k2 hk, if_true] at k1
        exact ⟨o0, rfl, k1⟩
    rcases hcase with ⟨h1, h2⟩ | h1
    · rw [h1] at h0 ⊢
      have hcell : ∀ A, (e.norm np rp keep).cellR k 1 0 [] 0 = some A → e.cellR k 1 0 [] 0 = some A := fun A hA => by
        obtain ⟨o', l, x1, x2, x3, x4, x5⟩ := Env.cellR_some.1 hA
        obtain ⟨o, y1, rfl⟩ := hok o' x1
        rw [ver_root hk h2] at x3
        simp only [normObj, if_pos hk] at x2
        exact Env.cellR_some.2 ⟨o, l, y1, x2, x3, x4, x5⟩
      exact ⟨⟨by rw [hlen]; exact h0.1.1, by rw [hgk]; exact h0.1.2.1, fun o _ => Nat.zero_le _⟩, fun E c l hc => h0.2.1 E c l (hcell _ hc), fun l hc => h0.2.2.1 l (hcell _ hc), h0.2.2.2⟩
    · rw [h1] at h0 ⊢
      obtain ⟨r1, b, oo, r2, r3⟩ := h0
      refine ⟨⟨by rw [hlen]; exact r1.1, by rw [hgk]; exact r1.2⟩, b, oo, r2, fun l hl => ?_⟩
      obtain ⟨o', x1, x2, x3⟩ := Env.cellsP_some.1 hl
      obtain ⟨o, y1, rfl⟩ := hok o' x1
      simp only [normObj, if_pos hk] at x2
      refine r3 l (Env.cellsP_some.2 ⟨o, y1, x2, ?_⟩)
      rcases x3 with ⟨x4, x5⟩ | ⟨s, q', x4, _⟩
      · exact .inl ⟨rfl, x5⟩
      · cases x4
theorem Rel.clr {np : Nat} {rp : List Nat} (h : Rel w0 L ok0 e a w G) (hp : PinsOk np rp L) (keep : List Nat) (rows : List (Nat × Nat × Nat)) (bxs : List (Nat × Nat × Nat × Nat)) : ∃ G', Rel w0 L ok0 (e.clr np rp keep rows bxs) a w G' := by
  have h1 : ∀ (rows : List (Nat × Nat × Nat)) (e : Env) (G : Gh), Rel w0 L ok0 e a w G → ∃ G', Rel w0 L ok0 (rows.foldl Env.rowStep e) a w G' := by
    intro rows
    induction rows with
    | nil => intro e G h; exact ⟨G, h⟩
    | cons r rows ih =>
      intro e G h
      obtain ⟨G1, h1⟩ := h.rowStep r
      exact ih _ G1 h1
  have h2 : ∀ (bxs : List (Nat × Nat × Nat × Nat)) (e : Env) (G : Gh), Rel w0 L ok0 e a w G → ∃ G', Rel w0 L ok0 (bxs.foldl Env.bxStep e) a w G' := by
    intro bxs
    induction bxs with
    | nil => intro e G h; exact ⟨G, h⟩
    | cons r bxs ih =>
      intro e G h
      obtain ⟨G1, h1⟩ := h.bxStep r
      exact ih _ G1 h1
  obtain ⟨G1, r1⟩ := h1 rows e G h
  obtain ⟨G2, r2⟩ := h2 bxs _ G1 r1
  exact ⟨G2, r2.norm hp keep⟩
end
end Go.Nv
/- BY VALUE, with trees. Part 44: code. -/
namespace Go.Nv
variable [Dr]
open Go.RowKit
def evalC (R : Nat → List AV → Option AV) (L : (Env → Option (Ex × Env)) → Env → Option (Ex × Env)) : C → Env → Option (Ex × Env)
  | .skip, e => some (.normal, e)
  | .reg ops, e => match evalOps R ops e with
    | some e' => some (.normal, e')
    | none => none
  | .drw ops prs, e => match evalD R ops e with
    | some (e', fs) => if prs.all (okPair fs) = true then some (.normal, e') else none
    | none => none
  | .seq a b, e => match evalC R L a e with
    | some (.normal, e') => evalC R L b e'
    | r => r
  | .cond x a b, e => match e.get x with
    | .bool v => if v then evalC R L a e else evalC R L b e
    | _ => none
  | .blk id a, e => match evalC R L a e with
    | some (.exit id', e') => if id' = id then some (.normal, e') else some (.exit id', e')
    | r => r
  | .loop a, e => L (evalC R L a) e
  | .exit id, e => some (.exit id, e)
  | .ret, e => some (.ret, e)
  | .clr np rp keep rows bxs, e => some (.normal, e.clr np rp keep rows bxs)
def loopN (b : Env → Option (Ex × Env)) : Nat → Env → Option (Ex × Env)
  | 0, _ => none
  | n + 1, e => match b e with
    | some (.normal, e') => loopN b n e'
    | r => r
def compC (P : Program) : Code → Option C
  | .skip => some .skip
  | .label _ => some .skip
  | .region _ ops draw => match compOPs P ops ops.toList with
    | some cs => if draw = true then (if drawOk ops.toList cs (pairsOf ops.toList cs) = true then (match pairsOf ops.toList cs with
        | [] => some (.reg cs)
        | p :: ps => some (.drw cs (p :: ps))) else none) else some (.reg cs)
    | none => none
  | .seq a b => match compC P a, compC P b with
    | some x, some y => some (.seq x y)
    | _, _ => none
  | .cond c a b => match compX c, compC P a, compC P b with
    | some z, some x, some y => some (.cond z x y)
    | _, _, _ => none
  | .block id a => match compC P a with
    | some x => some (.blk id x)
    | none => none
  | .loop a => match compC P a with
    | some x => some (.loop x)
    | none => none
  | .exit id => some (.exit id)
  | .scope a => compC P a
  | .ret => some .ret
  | _ => none
/-! ### Which temporaries a loop's head needs -/
def union (a b : List Nat) : List Nat := a.foldl (fun s x => if s.contains x then s else x :: s) b
def minus (a : List Nat) (d : Option Nat) : List Nat := match d with
  | some d => a.filter fun x => x != d
  | none => a
def liveOps (ops : List OP) (out : List Nat) : List Nat := ops.foldr (fun c s => union c.tr (minus s c.dst)) out
def upd (ex : Nat → List Nat) (id : Nat) (l : List Nat) : Nat → List Nat := fun i => if i == id then l else ex i
def live (res : List Nat) : C → (Nat → List Nat) → List Nat → List Nat
  | .skip, _, out => out
  | .reg ops, _, out => liveOps ops out
  | .drw ops _, _, out => liveOps ops out
  | .seq a b, ex, out => live res a ex (live res b ex out)
  | .cond x a b, ex, out => union x.tl (union (live res a ex out) (live res b ex out))
  | .blk id a, ex, out => live res a (upd ex id out) out
  | .loop a, ex, _ => let x1 := live res a ex []; live res a ex x1
  | .exit id, ex, _ => ex id
  | .ret, _, _ => res
  | .clr .., _, out => out
/-- What a loop's head is told with: parameters, the slices among the temporaries and in variables. -/
structure Hd where
  np : Nat
  rp : List Nat
  rows : List (Nat × Nat × Nat)
  bxs : List (Nat × Nat × Nat × Nat)
def mark (H : Hd) (res : List Nat) : C → (Nat → List Nat) → List Nat → C
  | .seq a b, ex, out => .seq (mark H res a ex (live res b ex out)) (mark H res b ex out)
  | .cond x a b, ex, out => .cond x (mark H res a ex out) (mark H res b ex out)
  | .blk id a, ex, out => .blk id (mark H res a (upd ex id out) out)
  | .loop a, ex, _ => let x1 := live res a ex []; let x2 := live res a ex x1; .loop (.seq (.clr H.np H.rp x2 (H.rows.filter fun p => x2.contains p.1) (H.bxs.filter fun p => decide (p.1 < H.np) || x2.contains p.1)) (mark H res a ex x2))
  | c, _, _ => c
/-- The same code, but that names may be told anew. -/
inductive Marked (np : Nat) (rp : List Nat) : C → C → Prop where
  | refl (c : C) : Marked np rp c c
  | seq {a b a' b' : C} : Marked np rp a a' → Marked np rp b b' → Marked np rp (.seq a b) (.seq a' b')
  | cond {x : X} {a b a' b' : C} : Marked np rp a a' → Marked np rp b b' → Marked np rp (.cond x a b) (.cond x a' b')
  | blk {id : Nat} {a a' : C} : Marked np rp a a' → Marked np rp (.blk id a) (.blk id a')
  | loop {a a' : C} (keep : List Nat) (rows : List (Nat × Nat × Nat)) (bxs : List (Nat × Nat × Nat × Nat)) : Marked np rp a a' → Marked np rp (.loop a) (.loop (.seq (.clr np rp keep rows bxs) a'))
section
variable {np : Nat} {rp : List Nat}
omit [Dr] in
theorem Marked.seq_inv {a b k : C} (h : Marked np rp (.seq a b) k) : ∃ a' b', k = .seq a' b' ∧ Marked np rp a a' ∧ Marked np rp b b' := by
  cases h with
  | refl => exact ⟨a, b, rfl, .refl _, .refl _⟩
  | seq h1 h2 => exact ⟨_, _, rfl, h1, h2⟩
omit [Dr] in
theorem Marked.cond_inv {x : X} {a b k : C} (h : Marked np rp (.cond x a b) k) : ∃ a' b', k = .cond x a' b' ∧ Marked np rp a a' ∧ Marked np rp b b' := by
  cases h with
  | refl => exact ⟨a, b, rfl, .refl _, .refl _⟩
  | cond h1 h2 => exact ⟨_, _, rfl, h1, h2⟩
omit [Dr] in
theorem Marked.blk_inv {id : Nat} {a k : C} (h : Marked np rp (.blk id a) k) : ∃ a', k = .blk id a' ∧ Marked np rp a a' := by
  cases h with
  | refl => exact ⟨a, rfl, .refl _⟩
  | blk h1 => exact ⟨_, rfl, h1⟩
omit [Dr] in
theorem Marked.loop_inv {a k : C} (h : Marked np rp (.loop a) k) : (∃ a', k = .loop a' ∧ Marked np rp a a') ∨ ∃ keep rows bxs a', k = .loop (.seq (.clr np rp keep rows bxs) a') ∧ Marked np rp a a' := by
  cases h with
  | refl => exact .inl ⟨a, rfl, .refl _⟩
  | loop keep rows bxs h1 => exact .inr ⟨keep, rows, bxs, _, rfl, h1⟩
omit [Dr] in
theorem mark_marked (H : Hd) (res : List Nat) : ∀ (c : C) (ex : Nat → List Nat) (out : List Nat), Marked H.np H.rp c (mark H res c ex out) := by
  intro c
  induction c with
  | seq a b iha ihb => intro ex out; exact .seq (iha _ _) (ihb _ _)
  | cond x a b iha ihb => intro ex out; exact .cond (iha _ _) (ihb _ _)
  | blk id a ih => intro ex out; exact .blk (ih _ _)
  | loop a ih => intro ex out; exact .loop _ _ _ (ih _ _)
  | _ => intro ex out; exact .refl _
end
def Ex.to : Ex → Exit
  | .normal => .normal
  | .exit id => .exit id
  | .ret => .ret
section
variable {P : Program} {w0 : World} {L : Lend} {ok0 : Nat → Nat → Prop} {e : Env} {a : Act} {w : World} {G : Gh}
variable {R : Nat → List AV → Option AV}
/-- The code does what the evaluator says. -/
theorem simC (hm : P.follows .mixedOrders = true) (hR : VSound P R) {np : Nat} {rp : List Nat} (hp : PinsOk np rp L) (n : Nat) : ∀ (c : Code) (k0 k : C), compC P c = some k0 → Marked np rp k0 k → ∀ (e : Env) (a : Act) (w : World) (G : Gh) (x : Ex) (e' : Env) (Q : Exit → Act → World → Prop),
    Rel w0 L ok0 e a w G → evalC R (fun b e => loopN b n e) k e = some (x, e') → (∀ a' w' G', Rel w0 L ok0 e' a' w' G' → Q x.to a' w') → c.wp P Q a w := by
  intro c
  induction c with
  | skip =>
    intro k0 k hk hM e a w G x e' Q h he hQ
    simp only [compC, Option.some.injEq] at hk; subst hk; cases hM
    simp only [evalC, Option.some.injEq, Prod.mk.injEq] at he
    obtain ⟨rfl, rfl⟩ := he
    exact wp_skip (hQ _ _ _ h)
  | label l =>
    intro k0 k hk hM e a w G x e' Q h he hQ
    simp only [compC, Option.some.injEq] at hk; subst hk; cases hM
    simp only [evalC, Option.some.injEq, Prod.mk.injEq] at he
    obtain ⟨rfl, rfl⟩ := he
    exact wp_label (hQ _ _ _ h)
  | region id ops draw =>
    intro k0 k hk hM e a w G x e' Q h he hQ
    simp only [compC] at hk
    cases hcs : compOPs P ops ops.toList with
    | none => simp [hcs] at hk
    | some cs =>
      simp only [hcs] at hk
      cases draw with
      | false =>
        simp only [Bool.false_eq_true, if_false, Option.some.injEq] at hk
        subst hk
        cases hM
        simp only [evalC] at he
        cases hev : evalOps R cs e with
        | none => simp [hev] at he
        | some e1 =>
          simp only [hev, Option.some.injEq, Prod.mk.injEq] at he
          obtain ⟨rfl, rfl⟩ := he
          exact sim_region hR h hcs hev hQ
      | true =>
        simp only [if_true] at hk
        by_cases hok : drawOk ops.toList cs (pairsOf ops.toList cs) = true
        case neg => rw [if_neg hok] at hk; cases hk
        rw [if_pos hok] at hk
        generalize pairsOf ops.toList cs = prs at hok hk
        cases prs with
        | nil =>
          simp only [Option.some.injEq] at hk
          subst hk
          cases hM
          simp only [evalC] at he
          cases hev : evalOps R cs e with
          | none => simp [hev] at he
          | some e1 =>
            simp only [hev, Option.some.injEq, Prod.mk.injEq] at he
            obtain ⟨rfl, rfl⟩ := he
            obtain ⟨fs, hD⟩ := evalD_of hev
            exact sim_drawn hm hR h hcs hok hD rfl hQ
        | cons p ps =>
          simp only [Option.some.injEq] at hk
          subst hk
          cases hM
          simp only [evalC] at he
          cases hev : evalD R cs e with
          | none => simp [hev] at he
          | some q =>
            obtain ⟨e1, fs⟩ := q
            simp only [hev] at he
            by_cases hpr : (p :: ps).all (okPair fs) = true
            case neg => rw [if_neg hpr] at he; cases he
            rw [if_pos hpr] at he
            simp only [Option.some.injEq, Prod.mk.injEq] at he
            obtain ⟨rfl, rfl⟩ := he
            exact sim_drawn hm hR h hcs hok hev hpr hQ
  | seq c1 c2 ih1 ih2 =>
    intro k0 k hk hM e a w G x e' Q h he hQ
    simp only [compC] at hk
    cases h1 : compC P c1 with
    | none => simp [h1] at hk
    | some k1 =>
      cases h2 : compC P c2 with
      | none => simp [h1, h2] at hk
      | some k2 =>
        simp only [h1, h2, Option.some.injEq] at hk
        subst hk
        obtain ⟨k1', k2', rfl, m1, m2⟩ := hM.seq_inv
        simp only [evalC] at he
        cases hev : evalC R (fun b e => loopN b n e) k1' e with
        | none => simp [hev] at he
        | some r =>
          obtain ⟨x1, e1⟩ := r
          cases x1 with
          | normal =>
            simp only [hev] at he
            exact wp_seq (ih1 k1 _ h1 m1 e a w G .normal e1 _ h hev (fun a' w' G' h' => ih2 k2 _ h2 m2 e1 a' w' G' x e' Q h' he hQ))
          | exit id =>
            simp only [hev, Option.some.injEq, Prod.mk.injEq] at he
            obtain ⟨rfl, rfl⟩ := he
            exact wp_seq (ih1 k1 _ h1 m1 e a w G (.exit id) e1 _ h hev (fun a' w' G' h' => hQ _ _ _ h'))
          | ret =>
            simp only [hev, Option.some.injEq, Prod.mk.injEq] at he
            obtain ⟨rfl, rfl⟩ := he
            exact wp_seq (ih1 k1 _ h1 m1 e a w G .ret e1 _ h hev (fun a' w' G' h' => hQ _ _ _ h'))
  | cond c c1 c2 ih1 ih2 =>
    intro k0 k hk hM e a w G x e' Q h he hQ
    simp only [compC] at hk
    cases h0 : compX c with
    | none => simp [h0] at hk
    | some z =>
      cases h1 : compC P c1 with
      | none => simp [h0, h1] at hk
      | some k1 =>
        cases h2 : compC P c2 with
        | none => simp [h0, h1, h2] at hk
        | some k2 =>
          simp only [h0, h1, h2, Option.some.injEq] at hk
          subst hk
          obtain ⟨k1', k2', rfl, m1, m2⟩ := hM.cond_inv
          simp only [evalC] at he
          have hc := compX_rep h0 h
          cases hz : e.get z <;> simp only [hz] at he hc <;> try (cases he; done)
          rename_i v
          refine wp_cond (inv_bool hc) ?_
          cases v with
          | true => exact ih1 k1 _ h1 m1 e a w G x e' Q h he hQ
          | false => exact ih2 k2 _ h2 m2 e a w G x e' Q h he hQ
  | block id c ih =>
    intro k0 k hk hM e a w G x e' Q h he hQ
    simp only [compC] at hk
    cases h1 : compC P c with
    | none => simp [h1] at hk
    | some k1 =>
      simp only [h1, Option.some.injEq] at hk
      subst hk
      obtain ⟨k1', rfl, m1⟩ := hM.blk_inv
      simp only [evalC] at he
      cases hev : evalC R (fun b e => loopN b n e) k1' e with
      | none => simp [hev] at he
      | some r =>
        obtain ⟨x1, e1⟩ := r
        refine wp_block (ih k1 _ h1 m1 e a w G x1 e1 _ h hev (fun a' w' G' h' => ?_))
        cases x1 with
        | normal =>
          simp only [hev, Option.some.injEq, Prod.mk.injEq] at he
          obtain ⟨rfl, rfl⟩ := he
          exact hQ _ _ _ h'
        | exit id' =>
          simp only [hev] at he
          show (if id' = id then Q .normal a' w' else Q (.exit id') a' w')
          by_cases hid : id' = id
          · rw [if_pos hid] at he ⊢
            simp only [Option.some.injEq, Prod.mk.injEq] at he
            obtain ⟨rfl, rfl⟩ := he
            exact hQ _ _ _ h'
          · rw [if_neg hid] at he ⊢
            simp only [Option.some.injEq, Prod.mk.injEq] at he
            obtain ⟨rfl, rfl⟩ := he
            exact hQ _ _ _ h'
        | ret =>
          simp only [hev, Option.some.injEq, Prod.mk.injEq] at he
          obtain ⟨rfl, rfl⟩ := he
          exact hQ _ _ _ h'
  | loop c ih =>
    intro k0 k hk hM e a w G x e' Q h he hQ
    simp only [compC] at hk
    cases h1 : compC P c with
    | none => simp [h1] at hk
    | some k1 =>
      simp only [h1, Option.some.injEq] at hk
      subst hk
      have key : ∀ (k1' : C), (∀ (e : Env) (a : Act) (w : World) (G : Gh) (x : Ex) (e' : Env) (Q : Exit → Act → World → Prop), Rel w0 L ok0 e a w G → evalC R (fun b e => loopN b n e) k1' e = some (x, e') →
            (∀ a' w' G', Rel w0 L ok0 e' a' w' G' → Q x.to a' w') → c.wp P Q a w) →
          ∀ (m : Nat) (e : Env) (a : Act) (w : World) (G : Gh), Rel w0 L ok0 e a w G → loopN (evalC R (fun b e => loopN b n e) k1') m e = some (x, e') → Code.rounds P c Q m a w := by
        intro k1' hbody m
        induction m with
        | zero => intro e a w G h he; simp [loopN] at he
        | succ m ihm =>
          intro e a w G h he
          simp only [loopN] at he
          rw [rounds_succ]
          cases hev : evalC R (fun b e => loopN b n e) k1' e with
          | none => simp [hev] at he
          | some r =>
            obtain ⟨x1, e1⟩ := r
            refine hbody e a w G x1 e1 _ h hev (fun a' w' G' h' => ?_)
            cases x1 with
            | normal => simp only [hev] at he; exact ihm e1 a' w' G' h' he
            | exit id =>
              simp only [hev, Option.some.injEq, Prod.mk.injEq] at he
              obtain ⟨rfl, rfl⟩ := he
              exact hQ _ _ _ h'
            | ret =>
              simp only [hev, Option.some.injEq, Prod.mk.injEq] at he
              obtain ⟨rfl, rfl⟩ := he
              exact hQ _ _ _ h'
      rcases hM.loop_inv with ⟨k1', rfl, m1⟩ | ⟨keep, rows, bxs, k1', rfl, m1⟩
      · simp only [evalC] at he
        exact wp_loop_rounds n (key k1' (fun e a w G x e' Q => ih k1 k1' h1 m1 e a w G x e' Q) n e a w G h he)
      · simp only [evalC] at he
        refine wp_loop_rounds n (key (.seq (.clr np rp keep rows bxs) k1') (fun e a w G x e' Q h he hQ => ?_) n e a w G h he)
        simp only [evalC] at he
        have he' : evalC R (fun b e => loopN b n e) k1' (e.clr np rp keep rows bxs) = some (x, e') := he
        obtain ⟨G', h'⟩ := h.clr hp keep rows bxs
        exact ih k1 k1' h1 m1 _ a w G' x e' Q h' he' hQ
  | exit id =>
    intro k0 k hk hM e a w G x e' Q h he hQ
    simp only [compC, Option.some.injEq] at hk; subst hk; cases hM
    simp only [evalC, Option.some.injEq, Prod.mk.injEq] at he
    obtain ⟨rfl, rfl⟩ := he
    exact wp_exit (hQ _ _ _ h)
  | scope c ih =>
    intro k0 k hk hM e a w G x e' Q h he hQ
    simp only [compC] at hk
    refine wp_scope_straight (ih k0 k hk hM e a w G x e' _ h he (fun a' w' G' h' => ?_))
    have := hQ a' w' G' h'
    cases x <;> exact this
  | ret =>
    intro k0 k hk hM e a w G x e' Q h he hQ
    simp only [compC, Option.some.injEq] at hk; subst hk; cases hM
    simp only [evalC, Option.some.injEq, Prod.mk.injEq] at he
    obtain ⟨rfl, rfl⟩ := he
    exact wp_ret (hQ _ _ _ h)
  | _ =>
    intro k0 k hk
    simp [compC] at hk
end
end Go.Nv
