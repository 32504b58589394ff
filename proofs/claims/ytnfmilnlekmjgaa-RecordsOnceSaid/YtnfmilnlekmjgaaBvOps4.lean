import Derived.Test.YtnfmilnlekmjgaaBvOps1
set_option linter.unusedVariables false
set_option linter.unusedSimpArgs false
namespace Go.Bv
open Go.RowKit

section
variable {P : Program} {base : Nat} {w0 : World} {ok0 : Nat → Nat → Prop} {e : Env} {a : Act} {w : World} {G : Gh}
variable {R : Nat → List AV → Option AV} {o : Oper} {K : Act → World → Prop} {Q : Exit → Act → World → Prop} {e' : Env}

theorem run_sizeOf {t : TypeId} {n : Nat} (h : sizeOf? P t = some n) (w : World) : (sizeOf t).run P w = .ok n w := by
  unfold sizeOf? at h
  cases hi' : P.info? t with
  | none => simp [hi'] at h
  | some i => simp [hi'] at h; simp [sizeOf, typeInfo, hi', h]

theorem sim_ia (h : Rel base w0 ok0 e a w G) {x i : Operand} {x' i' : X} {t el : TypeId} {c : Nat} (hx : compX x = some x') (hi : compX i = some i') (ho : o.op = .indexAddr t x i) (ht : P.underlying t = some (.slice el)) (hc : sizeOf? P el = some c)
    (he : evalO R e o.dst (.ia c x' i') = some e') (hK : ∀ a' w' G', Rel base w0 ok0 e' a' w' G' → K a' w') : o.wp P a w K Q := by
  simp only [evalO, act] at he
  have h1 := compX_rep hx h
  have h2 := compX_rep hi h
  cases hgi : e.get i' <;> simp only [hgi] at he h2 <;> try (cases he; done)
  rename_i k n
  have e2 := inv_int h2
  have hel : P.elem t = el := by simp [Program.elem, ht]
  have hrun : ∀ b off len cap, a.eval x = .slice (some ⟨b, off, none⟩) len cap → 0 ≤ n → n < len → (execOp a.eval o).run P w = .ok (.value (.pointer (some ⟨b, off + n.toNat * c, none⟩))) w := by
    intro b off len cap hv h0 hl
    have hr := run_indexAt_slice (P := P) w t ⟨b, off, none⟩ len cap k n (by rw [hel]; exact ht)
    rw [if_pos ⟨h0, hl⟩, hel, run_sizeOf hc] at hr
    simp only [Result.andThen_ok, Addr.add_lit] at hr
    simp only [execOp, ho, Sem.run_bind, hv, e2, hr, Result.andThen_ok, Sem.run_pure]
  cases hgx : e.get x' <;> simp only [hgx] at he h1 <;> try (cases he; done)
  case sl l =>
    by_cases hb : 0 ≤ n ∧ n < (l.length : Int)
    case neg => rw [if_neg hb] at he; cases he
    rw [if_pos hb] at he
    by_cases hlc : (l.getD n.toNat []).length = c
    case neg => rw [if_neg hlc] at he; cases he
    rw [if_pos hlc] at he
    simp only at he
    have h1' : RepR w G.ok (a.eval x) (.sl l) := h1
    have hlt : n.toNat < l.length := by omega
    generalize hva : a.eval x = va at h1' hrun
    cases h1' with
    | sl0 a' cap => simp at hlt
    | sl b off cap c' _ u hcap hcc hcell hpure hrep =>
      have hc' : c' = c := by rw [← hlc]; exact (hcc _ hlt).symm
      subst hc'
      refine sim_val0 h (hrun b off l.length cap rfl hb.1 hb.2) (RepR.toT (.el b (off + n.toNat * c') _ (fun j => u n.toNat j) (fun j hj => ?_) (fun j hj => ?_) (fun j hj => ?_))) he hK
      · rw [hlc] at hj; exact hcell n.toNat j hlt hj
      · rw [hlc] at hj; exact hpure n.toNat j hlt hj
      · rw [hlc] at hj; exact hrep n.toNat j hlt hj
  case own d g =>
    cases hk : e.ok? d g with
    | none => simp [hk] at he
    | some kk =>
      cases kk <;> simp only [hk] at he <;> try (cases he; done)
      rename_i E c' f l
      by_cases hb : 0 ≤ n ∧ n < (l.length : Int) ∧ c' = c
      case neg => rw [if_neg hb] at he; cases he
      rw [if_pos hb] at he
      simp only at he
      obtain ⟨b0, b1, rfl⟩ := hb
      obtain ⟨q1, q2, xs, q3, q4, q5, q6⟩ := row_cells h hk
      have hv := h1.2.2 _ _ _ _ hk
      rcases q3.2 with ⟨hn, hz⟩ | ⟨gb, cap, cur, hs, _⟩
      · omega
      · refine sim_val0 h (A := .rp d g n.toNat 0) (hrun gb 0 l.length cap (hv.trans hs) b0 b1) ⟨h1.1, h1.2.1, fun E' c'' f'' l' hk' => ⟨gb, l.length, cap, hs, ?_⟩⟩ he hK
        rw [hk] at hk'
        cases hk'
        simp

theorem intArg_inv {n : Nat} {lo : Option Operand} {lo' : Option X} {i : Int} (h : Rel base w0 ok0 e a w G)
    (hc : compXo lo = some lo') (hi : intArg n (lo'.map e.get) = some i) :
    (lo = none ∧ lo' = none ∧ i = n) ∨ ∃ l l' k, lo = some l ∧ lo' = some l' ∧ a.eval l = .int k i := by
  cases lo with
  | none =>
    simp [compXo] at hc
    subst hc
    simp [intArg] at hi
    exact .inl ⟨rfl, rfl, hi.symm⟩
  | some l =>
    simp only [compXo] at hc
    cases h1 : compX l with
    | none => simp [h1] at hc
    | some l' =>
      simp [h1] at hc
      subst hc
      have h2 := compX_rep h1 h
      simp only [Option.map_some] at hi
      cases hg : e.get l' <;> simp only [hg, intArg] at hi h2 <;> try (cases hi; done)
      rename_i k m
      cases hi
      exact .inr ⟨l, l', k, rfl, rfl, inv_int h2⟩

theorem sim_subs (h : Rel base w0 ok0 e a w G) {x : Operand} {x' : X} {t : TypeId} {lo hi : Option Operand} {lo' hi' : Option X} (hx : compX x = some x') (ho : o.op = .slice t x lo hi none) (ht : P.underlying t = some .string)
    (hlo : compXo lo = some lo') (hhi : compXo hi = some hi')
    (he : evalO R e o.dst (.subs x' lo' hi') = some e') (hK : ∀ a' w' G', Rel base w0 ok0 e' a' w' G' → K a' w') : o.wp P a w K Q := by
  simp only [evalO, act] at he
  have h1 := compX_rep hx h
  cases hgx : e.get x' <;> simp only [hgx] at he h1 <;> try (cases he; done)
  rename_i s
  have e1 := inv_str h1
  cases hl : intArg 0 (lo'.map e.get) with
  | none => simp [hl] at he
  | some l =>
    cases hh : intArg s.size (hi'.map e.get) with
    | none => simp [hl, hh] at he
    | some hgh =>
      simp only [hl, hh] at he
      by_cases hb : 0 ≤ l ∧ l ≤ hgh ∧ hgh ≤ (s.size : Int)
      case neg => rw [if_neg hb] at he; cases he
      rw [if_pos hb] at he
      simp only at he
      refine sim_val0 h (v := .string (s.extract l.toNat hgh.toNat)) ?_ (RepR.str _).toT he hK
      have c1 : (0 : Int) ≤ hgh := by omega
      have c2 : l ≤ ((hgh.toNat : Nat) : Int) := by omega
      rcases intArg_inv h hlo hl with ⟨rfl, _, hl0⟩ | ⟨lx, _, kl, rfl, _, hle⟩ <;> rcases intArg_inv h hhi hh with ⟨rfl, _, hh0⟩ | ⟨hx', _, kh, rfl, _, hhe⟩
      · subst hl0; subst hh0
        simp [execOp, ho, e1, Instr.sliceAt, Instr.slice, run_underlying ht, Instr.sliceBounds]
      · subst hl0
        simp [execOp, ho, e1, hhe, Instr.sliceAt, Instr.slice, run_underlying ht, Instr.sliceBounds, run_sliceBound w kh hgh s.size _ c1 hb.2.2]
      · subst hh0
        simp [execOp, ho, e1, hle, Instr.sliceAt, Instr.slice, run_underlying ht, Instr.sliceBounds, run_sliceBound w kl l s.size _ hb.1 hb.2.1]
      · simp [execOp, ho, e1, hle, hhe, Instr.sliceAt, Instr.slice, run_underlying ht, Instr.sliceBounds, run_sliceBound w kh hgh s.size _ c1 hb.2.2, run_sliceBound w kl l hgh.toNat _ hb.1 c2]

theorem sim_sub (h : Rel base w0 ok0 e a w G) {x : Operand} {x' : X} {t el : TypeId} {c : Nat} {lo hi : Option Operand} {lo' hi' : Option X} (hx : compX x = some x') (ho : o.op = .slice t x lo hi none) (ht : P.underlying t = some (.slice el)) (hc : sizeOf? P el = some c)
    (hlo : compXo lo = some lo') (hhi : compXo hi = some hi')
    (he : evalO R e o.dst (.sub c x' lo' hi') = some e') (hK : ∀ a' w' G', Rel base w0 ok0 e' a' w' G' → K a' w') : o.wp P a w K Q := by
  simp only [evalO, act] at he
  have h1 := compX_rep hx h
  cases hm : e.elems (e.get x') with
  | none => simp [hm] at he
  | some r =>
    obtain ⟨m, ks⟩ := r
    simp only [hm] at he
    have hrep := elems_rep h h1 hm
    cases hl : intArg 0 (lo'.map e.get) with
    | none => simp [hl] at he
    | some l =>
      cases hh : intArg m.length (hi'.map e.get) with
      | none => simp [hl, hh] at he
      | some hgh =>
        simp only [hl, hh] at he
        by_cases hb : 0 ≤ l ∧ l ≤ hgh ∧ hgh ≤ (m.length : Int) ∧ m.all (fun y => y.length == c) = true
        case neg => rw [if_neg hb] at he; cases he
        rw [if_pos hb] at he
        simp only at he
        obtain ⟨b1, b2, b3, b4⟩ := hb
        obtain ⟨ad, cap, hv, hcap⟩ := inv_sl hrep
        have hrun : (execOp a.eval o).run P w = .ok (.value (sliced ad l.toNat hgh.toNat cap c)) w := by
          have c1 : (0 : Int) ≤ hgh := by omega
          have c2 : l ≤ ((hgh.toNat : Nat) : Int) := by omega
          have c3 : hgh ≤ (cap : Int) := by omega
          have hcap' : P.elem t = el := by simp [Program.elem, ht]
          have hz := run_sizeOf hc w
          rcases intArg_inv h hlo hl with ⟨rfl, _, hl0⟩ | ⟨lx, _, kl, rfl, _, hle⟩ <;> rcases intArg_inv h hhi hh with ⟨rfl, _, hh0⟩ | ⟨hx', _, kh, rfl, _, hhe⟩
          · subst hl0; subst hh0
            simp [execOp, ho, hv, Instr.sliceAt, Instr.slice, run_underlying ht, Instr.sliceBounds, hz, sliced]
          · subst hl0
            simp [execOp, ho, hv, hhe, Instr.sliceAt, Instr.slice, run_underlying ht, Instr.sliceBounds, run_sliceBound w kh hgh cap _ c1 c3, hz, sliced]
          · subst hh0
            simp [execOp, ho, hv, hle, Instr.sliceAt, Instr.slice, run_underlying ht, Instr.sliceBounds, run_sliceBound w kl l m.length _ b1 b2, hz, sliced]
          · simp [execOp, ho, hv, hle, hhe, Instr.sliceAt, Instr.slice, run_underlying ht, Instr.sliceBounds, run_sliceBound w kh hgh cap _ c1 c3, run_sliceBound w kl l hgh.toNat _ b1 c2, hz, sliced]
        refine sim_val h hrun (RepR.toT ?_) he hK
        have hlen : ((m.take hgh.toNat).drop l.toNat).length = hgh.toNat - l.toNat := by simp; omega
        by_cases hempty : hgh.toNat - l.toNat = 0
        · have h0 : (m.take hgh.toNat).drop l.toNat = [] := List.eq_nil_of_length_eq_zero (by rw [hlen]; exact hempty)
          rw [h0]
          unfold sliced
          rw [hempty]
          exact .sl0 _ _
        · generalize a.eval x = va at hv hrep
          subst hv
          generalize hmn : m.length = mn at hrep
          cases hrep with
          | sl0 _ _ => simp at b3; omega
          | sl b off cap c' _ u hcap hcc hcell hpure hrep =>
            have hlt0 : 0 < m.length := by omega
            have hc' : c' = c := by
              have h5 := hcc 0 hlt0
              have h6 := List.all_eq_true.1 b4 (m.getD 0 []) (by
                rw [List.getD_eq_getElem?_getD, List.getElem?_eq_getElem hlt0]; simp)
              have h7 : (m.getD 0 []).length = c := by simpa using h6
              rw [← h5, h7]
            subst hc'
            have hg : ∀ i, i < hgh.toNat - l.toNat → ((m.take hgh.toNat).drop l.toNat).getD i [] = m.getD (l.toNat + i) [] := fun i hi => by
              have h8 : l.toNat + i < hgh.toNat := by omega
              simp [List.getD_eq_getElem?_getD, List.getElem?_drop, List.getElem?_take, h8]
            have hne : ¬ (cap = l.toNat) := by omega
            unfold sliced
            rw [if_neg hne]
            simp only [Option.map_some, Addr.add_lit]
            rw [← hlen]
            refine .sl b (off + l.toNat * c') (cap - l.toNat) c' _ (fun i j => u (l.toNat + i) j) (by rw [hlen]; omega) (fun i hi => ?_) (fun i j hi hj => ?_) (fun i j hi hj => ?_) (fun i j hi hj => ?_)
            · rw [hlen] at hi; rw [hg i hi]; exact hcc _ (by omega)
            · rw [hlen] at hi
              have := hcell (l.toNat + i) j (by omega) hj
              rw [Nat.add_mul] at this
              have e9 : off + l.toNat * c' + i * c' + j = off + (l.toNat * c' + i * c') + j := by omega
              rw [e9]; exact this
            · rw [hlen] at hi; rw [hg i hi]; exact hpure _ j (by omega) hj
            · rw [hlen] at hi; rw [hg i hi]; exact hrep _ j (by omega) hj

end
end Go.Bv

set_option linter.unusedVariables false
set_option linter.unusedSimpArgs false
namespace Go.Bv
open Go.RowKit

/-! ### Parts laid into cells -/
theorem splice_len (z : List AV) (off : Nat) (l : List AV) (h : off + l.length ≤ z.length) : (splice z off l).length = z.length := by
  simp [splice]; omega
theorem splice_getD (z : List AV) (off : Nat) (l : List AV) (h : off + l.length ≤ z.length) (k : Nat) :
    (splice z off l).getD k .unk = if k < off then z.getD k .unk else if k < off + l.length then l.getD (k - off) .unk else z.getD k .unk := by
  simp only [splice, List.getD_eq_getElem?_getD, List.append_assoc]
  by_cases h1 : k < off
  · rw [if_pos h1, List.getElem?_append_left (by simp; omega), List.getElem?_take, if_pos h1]
  · rw [if_neg h1, List.getElem?_append_right (by simp; omega)]
    have e1 : (z.take off).length = off := by simp; omega
    rw [e1]
    by_cases h2 : k < off + l.length
    · rw [if_pos h2, List.getElem?_append_left (by omega)]
    · rw [if_neg h2, List.getElem?_append_right (by omega), List.getElem?_drop]
      congr 2; omega

theorem zipFold_list (off : Nat) : ∀ (vs : List Value) (s : Nat) (cs : Array Value), off + s + vs.length ≤ cs.size →
    ((vs.zipIdx s).foldl (fun cs p => cs.setIfInBounds (off + p.2) p.1) cs).size = cs.size ∧
    ∀ k, ((vs.zipIdx s).foldl (fun cs p => cs.setIfInBounds (off + p.2) p.1) cs).getD k undef = if k < off + s then cs.getD k undef else if k < off + s + vs.length then vs.getD (k - (off + s)) undef else cs.getD k undef
  | [], s, cs, h => by
    refine ⟨rfl, fun k => ?_⟩
    simp only [List.zipIdx_nil, List.foldl_nil, List.length_nil, Nat.add_zero]
    split
    · rfl
    · rfl
  | v :: vs, s, cs, h => by
    simp only [List.length_cons] at h
    obtain ⟨i1, i2⟩ := zipFold_list off vs (s + 1) (cs.setIfInBounds (off + s) v) (by simp; omega)
    simp only [List.zipIdx_cons, List.foldl_cons]
    refine ⟨by rw [i1]; simp, fun k => ?_⟩
    rw [i2 k]
    simp only [List.length_cons]
    by_cases h1 : k < off + s
    · rw [if_pos (by omega), if_pos h1, agetD_set_ne _ _ _ _ _ (by omega)]
    · rw [if_neg h1]
      by_cases h2 : k = off + s
      · subst h2
        rw [if_pos (by omega), if_pos (by omega), agetD_set_eq _ _ _ _ (by omega), Nat.sub_self]
        rfl
      · rw [if_neg (by omega)]
        by_cases h3 : k < off + s + (vs.length + 1)
        · rw [if_pos (by omega), if_pos h3]
          have : k - (off + s) = (k - (off + (s + 1))) + 1 := by omega
          rw [this]
          rfl
        · rw [if_neg (by omega), if_neg h3, agetD_set_ne _ _ _ _ _ (by omega)]

theorem zipFold (off : Nat) (vs cs : Array Value) (h : off + vs.size ≤ cs.size) :
    (vs.zipIdx.foldl (fun cs (p : Value × Nat) => cs.setIfInBounds (off + p.2) p.1) cs).size = cs.size ∧
    ∀ k, (vs.zipIdx.foldl (fun cs (p : Value × Nat) => cs.setIfInBounds (off + p.2) p.1) cs).getD k undef = if k < off then cs.getD k undef else if k < off + vs.size then vs.getD (k - off) undef else cs.getD k undef := by
  have := zipFold_list off vs.toList 0 cs (by simpa using h)
  rw [← Array.foldl_toList, Array.toList_zipIdx]
  simpa using this

section
variable {P : Program} {base : Nat} {w0 : World} {ok0 : Nat → Nat → Prop} {e : Env} {a : Act} {w : World} {G : Gh}
variable {R : Nat → List AV → Option AV} {o : Oper} {K : Act → World → Prop} {Q : Exit → Act → World → Prop} {e' : Env}

theorem fill_rep (h : Rel base w0 ok0 e a w G) (place : Nat → Option (Nat × Nat)) :
    ∀ (ps : List (Nat × Operand)) (qs : List (Nat × Nat × X)) (z zc : List AV) (cs : Array Value) (k0 ks : List Nat),
      qs.length = ps.length → (∀ j, j < ps.length → place (ps.getD j default).1 = some ((qs.getD j default).1, (qs.getD j default).2.1) ∧ compX (ps.getD j default).2 = some (qs.getD j default).2.2) →
      fill e z qs = some (zc, ks) → cs.size = z.length → (∀ k, k < z.length → RepR w (G.frz e k0).ok (cs.getD k undef) (z.getD k .unk) ∧ (z.getD k .unk).pure = true) →
      ∃ cells, Instr.fill place cs (ps.map fun p => (p.1, a.eval p.2)) = some cells ∧ cells.size = zc.length ∧ zc.length = z.length ∧
        ∀ k, k < zc.length → RepR w (G.frz e (k0 ++ ks)).ok (cells.getD k undef) (zc.getD k .unk) ∧ (zc.getD k .unk).pure = true := by
  intro ps
  induction ps with
  | nil =>
    intro qs z zc cs k0 ks hl hq hf hs hr
    have : qs = [] := List.eq_nil_of_length_eq_zero (by simpa using hl)
    subst this
    simp [fill] at hf
    obtain ⟨rfl, rfl⟩ := hf
    exact ⟨cs, rfl, hs, rfl, by simpa using hr⟩
  | cons p ps ih =>
    intro qs z zc cs k0 ks hl hq hf hs hr
    cases qs with
    | nil => simp at hl
    | cons q qs =>
      obtain ⟨off, n, x⟩ := q
      obtain ⟨i, px⟩ := p
      obtain ⟨hp1, hp2⟩ := hq 0 (by simp)
      simp only [List.getD_cons_zero] at hp1 hp2
      simp only [fill] at hf
      cases hc : e.cells (e.get x) with
      | none => simp [hc] at hf
      | some r =>
        obtain ⟨l, k1⟩ := r
        simp only [hc] at hf
        by_cases hb : l.length = n ∧ off + n ≤ z.length
        case neg => rw [if_neg hb] at hf; cases hf
        rw [if_pos hb] at hf
        cases hf2 : fill e (splice z off l) qs with
        | none => simp [hf2] at hf
        | some r =>
          obtain ⟨z2, k2⟩ := r
          simp only [hf2, Option.some.injEq, Prod.mk.injEq] at hf
          obtain ⟨rfl, rfl⟩ := hf
          obtain ⟨c1, c2⟩ := cells_rep h (compX_rep hp2 h) hc
          have hfit : off + l.length ≤ z.length := by rw [hb.1]; exact hb.2
          have hsz : off + (a.eval px).cells.size ≤ cs.size := by rw [c1, hs]; exact hfit
          obtain ⟨f1, f2⟩ := zipFold off (a.eval px).cells cs hsz
          have hspl := splice_len z off l hfit
          obtain ⟨cells, g1, g2, g3, g4⟩ := ih qs (splice z off l) z2 _ (k0 ++ k1) k2 (by simpa using hl) (fun j hj => by have := hq (j + 1) (by simpa using hj); simpa using this) hf2
            (by rw [f1, hs, hspl]) (fun k hk => by
              rw [hspl] at hk
              rw [f2 k, splice_getD z off l hfit k, c1]
              have hz := hr k hk
              have hz' : RepR w (G.frz e (k0 ++ k1)).ok (cs.getD k undef) (z.getD k .unk) ∧ (z.getD k .unk).pure = true :=
                ⟨RepR.mono (fun b o hb => Gh.frz_sub (fun x hx => List.mem_append_left k1 hx) hb) (fun _ _ _ => SameAt.refl) hz.1, hz.2⟩
              by_cases q1 : k < off
              · rw [if_pos q1, if_pos q1]; exact hz'
              · rw [if_neg q1, if_neg q1]
                by_cases q2 : k < off + l.length
                · rw [if_pos q2, if_pos q2]
                  have := c2 (k - off) (by omega)
                  exact ⟨RepR.mono (fun b o hb => Gh.frz_sub (fun x hx => List.mem_append_right k0 hx) hb) (fun _ _ _ => SameAt.refl) this.1, this.2⟩
                · rw [if_neg q2, if_neg q2]; exact hz')
          refine ⟨cells, ?_, g2, by rw [g3, hspl], fun k hk => ?_⟩
          · simp only [List.map_cons, Instr.fill, hp1]
            rw [if_neg (by rw [c1]; simp; omega)]
            exact g1
          · rw [← List.append_assoc]; exact g4 k hk

theorem partsOf_spec {places : List (Nat × Nat)} : ∀ {ps : List (Nat × Operand)} {qs : List (Nat × Nat × X)}, partsOf places ps = some qs →
    qs.length = ps.length ∧ ∀ j, j < ps.length → places[(ps.getD j default).1]? = some ((qs.getD j default).1, (qs.getD j default).2.1) ∧ compX (ps.getD j default).2 = some (qs.getD j default).2.2
  | [], qs, h => by simp [partsOf] at h; subst h; exact ⟨rfl, fun j hj => absurd hj (by simp)⟩
  | (i, x) :: ps, qs, h => by
    simp only [partsOf] at h
    cases h1 : places[i]? with
    | none => simp [h1] at h
    | some r =>
      cases h2 : compX x with
      | none => simp [h1, h2] at h
      | some y =>
        cases h3 : partsOf places ps with
        | none => simp [h1, h2, h3] at h
        | some m =>
          obtain ⟨off, n⟩ := r
          simp only [h1, h2, h3, Option.some.injEq] at h
          subst h
          obtain ⟨i1, i2⟩ := partsOf_spec h3
          refine ⟨by simp [i1], fun j hj => ?_⟩
          cases j with
          | zero => exact ⟨h1, h2⟩
          | succ j => simpa using i2 j (by simpa using hj)

theorem zeroOf_spec {t : TypeId} {z : List AV × Nat × Nat} (h : zeroOf P t = some z) : ∃ i zv, P.info? t = some i ∧ i.zero = some zv ∧ avsOf zv.cells.toList = some z.1 ∧ i.size = z.1.length ∧ i.size = z.2.1 ∧ i.bytes = z.2.2 ∧ zv.cells.size = i.size := by
  unfold zeroOf at h
  cases h1 : P.info? t with
  | none => simp [h1] at h
  | some i =>
    simp only [h1] at h
    cases h2 : i.zero with
    | none => simp [h2] at h
    | some zv =>
      simp only [h2] at h
      cases h3 : avsOf zv.cells.toList with
      | none => simp [h3] at h
      | some l =>
        simp only [h3] at h
        by_cases h4 : i.size = l.length
        · rw [if_pos h4] at h
          cases h
          have := (avsOf_rep h3 (default : World) (fun _ _ => True)).1
          exact ⟨i, zv, rfl, h2, h3, h4, rfl, rfl, by rw [h4, this]; simp⟩
        · rw [if_neg h4] at h; cases h

theorem zero_rep {zv : Value} {l : List AV} (h : avsOf zv.cells.toList = some l) (w : World) (ok : Nat → Nat → Prop) : zv.cells.size = l.length ∧ ∀ k, k < l.length → RepR w ok (zv.cells.getD k undef) (l.getD k .unk) ∧ (l.getD k .unk).pure = true := by
  obtain ⟨h1, h2⟩ := avsOf_rep h w ok
  refine ⟨by rw [h1]; simp, fun k hk => ?_⟩
  have := h2 k hk
  simpa [List.getD_eq_getElem?_getD] using this

theorem sim_bld (h : Rel base w0 ok0 e a w G) {t : TypeId} {parts : Array (Nat × Operand)} {fields : Array Field} {z : List AV × Nat × Nat} {places : List (Nat × Nat)} {qs : List (Nat × Nat × X)} (ho : o.op = .build t parts)
    (ht : P.underlying t = some (.struct fields)) (hz : zeroOf P t = some z) (hp : fields.toList.mapM (fun f => (P.info? f.type).map fun i => (f.offset, i.size)) = some places) (hq : partsOf places parts.toList = some qs)
    (he : evalO R e o.dst (.bld z.1 qs) = some e') (hK : ∀ a' w' G', Rel base w0 ok0 e' a' w' G' → K a' w') : o.wp P a w K Q := by
  simp only [evalO, act] at he
  cases hf : fill e z.1 qs with
  | none => simp [hf] at he
  | some r =>
    obtain ⟨l, ks⟩ := r
    simp only [hf] at he
    obtain ⟨i, zv, z1, z2, z3, _, _, _, _⟩ := zeroOf_spec hz
    obtain ⟨p1, p2⟩ := partsOf_spec hq
    obtain ⟨r1, r2⟩ := zero_rep z3 w (G.frz e []).ok
    obtain ⟨cells, g1, g2, g3, g4⟩ := fill_rep h (places.toArray[·]?) parts.toList qs z.1 l zv.cells [] ks p1 (fun j hj => by simpa using p2 j hj) hf r1 r2
    have hb : P.built t (parts.map fun p => (p.1, a.eval p.2)).toList = some cells := by
      simp only [Program.built, z1, ht, z2, hp, Array.toList_map]
      exact g1
    have hr := run_build (P := P) w t _ cells hb
    refine sim_val h (v := .agg cells) ?_ (RepR.toT (.agg _ _ g2 (fun j hj => (g4 j hj).2) (fun j hj => (g4 j hj).1))) he hK
    simp only [execOp, ho, Sem.run_bind]
    rw [show (parts.map fun (x : Nat × Operand) => match x with | (i, x) => (i, a.eval x)) = (parts.map fun p => (p.1, a.eval p.2)) from rfl, hr]
    simp only [Result.andThen_ok, Sem.run_pure]

theorem ifill_append (place : Nat → Option (Nat × Nat)) {i j : Nat} {v : Value} (hp : place i = some (j, 1)) (hv : v.cells = #[v]) : ∀ (L : List (Nat × Value)) (cs cells : Array Value), Instr.fill place cs L = some cells → j < cells.size →
    Instr.fill place cs (L ++ [(i, v)]) = some (cells.setIfInBounds j v)
  | [], cs, cells, h, hj => by
    simp only [Instr.fill, Option.some.injEq] at h
    subst h
    simp only [List.nil_append, Instr.fill, hp, hv]
    rw [if_neg (by simp; omega)]
    simp [Array.zipIdx]
  | (k, u) :: L, cs, cells, h, hj => by
    simp only [List.cons_append, Instr.fill] at h ⊢
    cases hk : place k with
    | none => simp [hk] at h
    | some r =>
      obtain ⟨off, size⟩ := r
      simp only [hk] at h ⊢
      split at h
      · cases h
      · rename_i hc
        rw [if_neg hc]
        exact ifill_append place hp hv L _ cells h hj

theorem sim_bldo (h : Rel base w0 ok0 e a w G) {t : TypeId} {parts : Array (Nat × Operand)} {fields : Array Field} {z : List AV × Nat × Nat} {places : List (Nat × Nat)} {qs : List (Nat × Nat × X)} {q : Nat × Nat × X} (ho : o.op = .build t parts)
    (ht : P.underlying t = some (.struct fields)) (hz : zeroOf P t = some z) (hp : fields.toList.mapM (fun f => (P.info? f.type).map fun i => (f.offset, i.size)) = some places) (hq : partsOf places parts.toList = some qs)
    (hl : qs.getLast? = some q) (h1 : q.2.1 = 1)
    (he : evalO R e o.dst (.bldo z.1 qs.dropLast q.1 q.2.2) = some e') (hK : ∀ a' w' G', Rel base w0 ok0 e' a' w' G' → K a' w') : o.wp P a w K Q := by
  simp only [evalO, act] at he
  cases hx : e.get q.2.2 <;> simp only [hx] at he <;> try (cases he; done)
  rename_i d g
  cases hk : e.ok? d g with
  | none => simp [hk] at he
  | some k =>
    cases k <;> simp only [hk] at he <;> try (cases he; done)
    rename_i E c f m
    cases hf : fill e z.1 qs.dropLast with
    | none => simp [hf] at he
    | some r =>
      obtain ⟨l, ks⟩ := r
      simp only [hf] at he
      by_cases hkd : ks.contains d = true
      case pos => rw [if_pos hkd] at he; cases he
      rw [if_neg hkd] at he
      by_cases hjl : q.1 < l.length
      case neg => rw [if_neg hjl] at he; cases he
      rw [if_pos hjl] at he
      obtain ⟨i, zv, z1, z2, z3, _, _, _, _⟩ := zeroOf_spec hz
      obtain ⟨p1, p2⟩ := partsOf_spec hq
      obtain ⟨r1, r2⟩ := zero_rep z3 w (G.frz e []).ok
      have hne : qs ≠ [] := fun hh => by subst hh; simp at hl
      have hqe : qs = qs.dropLast ++ [q] := by
        have := List.dropLast_concat_getLast hne
        rw [List.getLast?_eq_some_getLast hne] at hl
        simp only [Option.some.injEq] at hl
        rw [← hl]; exact this.symm
      have hpne : parts.toList ≠ [] := fun hh => hne (List.eq_nil_of_length_eq_zero (by rw [p1, hh]; rfl))
      obtain ⟨P0, pl, hpe⟩ : ∃ P0 pl, parts.toList = P0 ++ [pl] := ⟨_, _, (List.dropLast_concat_getLast hpne).symm⟩
      have hlen : qs.dropLast.length = P0.length := by
        have h5 := p1
        rw [hqe, hpe] at h5
        simpa using h5
      have hD : ∀ j, j < P0.length → (parts.toList.getD j default) = P0.getD j default ∧ (qs.getD j default) = qs.dropLast.getD j default := fun j hj => by
        constructor
        · rw [hpe, List.getD_eq_getElem?_getD, List.getElem?_append_left hj, ← List.getD_eq_getElem?_getD]
        · conv => lhs; rw [hqe]
          rw [List.getD_eq_getElem?_getD, List.getElem?_append_left (by omega), ← List.getD_eq_getElem?_getD]
      have hlast := p2 P0.length (by rw [hpe]; simp)
      have e1 : parts.toList.getD P0.length default = pl := by rw [hpe]; simp [List.getD_eq_getElem?_getD]
      have e2 : qs.getD P0.length default = q := by rw [hqe, ← hlen]; simp [List.getD_eq_getElem?_getD]
      rw [e1, e2] at hlast
      obtain ⟨cells, g1, g2, g3, g4⟩ := fill_rep h (places.toArray[·]?) P0 qs.dropLast z.1 l zv.cells [] ks hlen (fun j hj => by
        have := p2 j (by rw [hpe]; simp; omega)
        rw [(hD j hj).1, (hD j hj).2] at this
        simpa using this) hf r1 r2
      have hrep := compX_rep hlast.2 h
      rw [hx] at hrep
      obtain ⟨hdl, hgl, hkd2⟩ := Env.ok?_eq hk
      have hsv := hrep.2.2 _ _ _ _ hk
      have hobj := h.objs d hdl
      rw [hkd2] at hobj
      obtain ⟨_, _, xs, o3, _⟩ := hobj
      have hcells : (a.eval pl.2).cells = #[a.eval pl.2] := by
        rw [hsv]
        rcases o3.2 with hn | ⟨bb, cap, cur, q1, _⟩
        · rw [hn.1]; rfl
        · rw [q1]; rfl
      have hb : P.built t (parts.map fun p => (p.1, a.eval p.2)).toList = some (cells.setIfInBounds q.1 (a.eval pl.2)) := by
        simp only [Program.built, z1, ht, z2, hp, Array.toList_map, hpe, List.map_append, List.map_cons, List.map_nil]
        exact ifill_append _ (by have := hlast.1; rw [h1] at this; simpa using this) hcells _ _ _ g1 (by omega)
      have hr := run_build (P := P) w t _ _ hb
      have hks : d ∉ ks := fun hh => hkd (List.contains_iff_mem.2 hh)
      have hfok : (e.freeze ks).ok? d g = some (.row E c f m) ∨ True := .inr trivial
      have hfl : ∀ (ks : List Nat) (e : Env), (e.freeze ks).objs.length = e.objs.length := by
        intro ks
        induction ks with
        | nil => intro e; rfl
        | cons k ks ih => intro e; rw [Env.freeze_cons, ih, Env.freeze1_len]
      have hfg : ∀ (ks : List Nat) (e : Env), (e.freeze ks).gen d = e.gen d := by
        intro ks
        induction ks with
        | nil => intro e; rfl
        | cons k ks ih => intro e; rw [Env.freeze_cons, ih, Env.freeze1_gen]
      refine sim_val h (v := .agg (cells.setIfInBounds q.1 (a.eval pl.2))) (ks := ks) ?_ ?_ he hK
      · simp only [execOp, ho, Sem.run_bind]
        rw [show (parts.map fun (x : Nat × Operand) => match x with | (i, x) => (i, a.eval x)) = (parts.map fun p => (p.1, a.eval p.2)) from rfl, hr]
        simp only [Result.andThen_ok, Sem.run_pure]
      · refine ⟨by rw [hfl]; exact hdl, by rw [hfg]; exact hgl ▸ Nat.le_refl _, _, rfl, by simp [g2], hjl, fun k hk2 hkj => ?_, fun A hA => ?_, fun E' c' f' m' _ => ?_⟩
        · rw [agetD_set_ne _ _ _ _ _ (fun hh => hkj hh.symm)]
          exact g4 k hk2
        · obtain ⟨k, hk3, rfl⟩ := List.getElem_of_mem hA
          have := (g4 k hk3).2
          rw [List.getD_eq_getElem?_getD, List.getElem?_eq_getElem hk3] at this
          exact this
        · rw [agetD_set_eq _ _ _ _ (by omega), hsv, Gh.frz_sv]

/-! ### The world grows, and all that is new is never written -/
theorem Rel.world (h : Rel base w0 ok0 e a w G) {w' : World} (hB : Below w.heap.size w w') (p : Nat → Nat → Prop) (hp : ∀ b o, p b o → w.heap.size ≤ b ∧ b < w'.heap.size) :
    Rel base w0 ok0 e a w' { G with ok := fun b o => G.ok b o ∨ p b o } := by
  have hcell : ∀ b o, G.ok b o → SameAt w w' b o := fun b o hb => SameAt.of_block (hB.block b (h.okb b o hb))
  have hT : ∀ v A, RepT w G e v A → RepT w' { G with ok := fun b o => G.ok b o ∨ p b o } e v A := fun v A hv =>
    RepT.mono (G := G) (G' := { G with ok := fun b o => G.ok b o ∨ p b o }) (Weaker.refl e) (fun _ _ hh => .inl hh) hcell (fun _ _ _ _ _ _ => rfl) hv
  have hlt : ∀ d, d < e.objs.length → (e.kind d).live = true → ∀ b, blkOf (G.sv d) = some b → base ≤ b ∧ b < w.heap.size := by
    intro d hd hl b hb
    have ho := h.objs d hd
    cases hk : e.kind d with
    | dead => rw [hk] at hl; cases hl
    | box m =>
      rw [hk] at ho
      obtain ⟨b', vs, T, q1, q2, q3, _⟩ := ho
      rw [q1] at hb
      simp [blkOf] at hb
      subst hb
      exact ⟨q2, (Array.getElem?_eq_some_iff.1 q3).1⟩
    | row E c f l =>
      rw [hk] at ho
      obtain ⟨_, _, xs, q, _⟩ := ho
      exact (ownBlock_blkOf q hb).2
  refine ⟨h.below.trans (hB.mono h.base_le), Nat.le_trans h.base_le hB.size, h.size, fun t ht => hT _ _ (h.tmps t ht), h.defers, fun b o hb => ?_, fun b o hb => ?_, fun d hd => ?_, h.inj⟩
  · rcases hb with hb | hb
    · exact Nat.lt_of_lt_of_le (h.okb b o hb) hB.size
    · exact (hp b o hb).2
  · constructor
    · rintro (hh | hh)
      · exact (h.ok0 b o hb).1 hh
      · have := (hp b o hh).1; have := h.base_le; omega
    · exact fun hh => .inl ((h.ok0 b o hb).2 hh)
  · have hob := h.objs d hd
    cases hk : e.kind d with
    | dead => trivial
    | box m =>
      have hl := hlt d hd (by rw [hk]; rfl)
      rw [hk] at hob
      obtain ⟨b, vs, T, q1, q2, q3, q4, q5, q6⟩ := hob
      have hb := hl b (by rw [q1]; rfl)
      refine ⟨b, vs, T, q1, q2, by rw [hB.block b hb.2]; exact q3, q4, fun j hj => ⟨hT _ _ (q5 j hj).1, (q5 j hj).2⟩, fun o ho => ?_⟩
      rcases ho with ho | ho
      · exact q6 o ho
      · have := (hp b o ho).1; omega
    | row E c f l =>
      have hl := hlt d hd (by rw [hk]; rfl)
      rw [hk] at hob
      obtain ⟨q1, q2, xs, q3, q4, q5⟩ := hob
      refine ⟨q1, q2, xs, ⟨q3.1, ?_⟩, fun i j hi hj => ⟨RepR.mono (fun _ _ hh => .inl hh) hcell (q4 i j hi hj).1, (q4 i j hi hj).2⟩, fun b hb o ho => ?_⟩
      · rcases q3.2 with hn | ⟨gb, cap, cur, s1, s2, s3, s4⟩
        · exact .inl hn
        · exact .inr ⟨gb, cap, cur, s1, s2, by rw [hB.block gb (Array.getElem?_eq_some_iff.1 s3).1]; exact s3, s4⟩
      · rcases ho with ho | ho
        · exact q5 b hb o ho
        · have := (hp b o ho).1; have := (hl b hb).2; omega

theorem below_alloc' (w : World) (ob : Obj) : Below w.heap.size w (w.alloc ob) := (Below.refl _ _).alloc (Nat.le_refl _) ob

end
end Go.Bv

set_option linter.unusedVariables false
set_option linter.unusedSimpArgs false
namespace Go.Bv
open Go.RowKit

section
variable {P : Program} {base : Nat} {w0 : World} {ok0 : Nat → Nat → Prop} {e : Env} {a : Act} {w : World} {G : Gh}
variable {R : Nat → List AV → Option AV} {o : Oper} {K : Act → World → Prop} {Q : Exit → Act → World → Prop} {e' : Env}

theorem Rel.blk (h : Rel base w0 ok0 e a w G) {d : Nat} (hd : d < e.objs.length) (hl : (e.kind d).live = true) {b : Nat} (hb : blkOf (G.sv d) = some b) : base ≤ b ∧ b < w.heap.size := by
  have ho := h.objs d hd
  cases hk : e.kind d with
  | dead => rw [hk] at hl; cases hl
  | box m =>
    rw [hk] at ho
    obtain ⟨b', vs, T, q1, q2, q3, _⟩ := ho
    rw [q1] at hb
    simp [blkOf] at hb
    subst hb
    exact ⟨q2, (Array.getElem?_eq_some_iff.1 q3).1⟩
  | row E c f l =>
    rw [hk] at ho
    obtain ⟨_, _, xs, q, _⟩ := ho
    exact (ownBlock_blkOf q hb).2

/-- Something is made: its block is new. -/
theorem Rel.make (h : Rel base w0 ok0 e a w G) {d : Nat} {k : OK} {nv : Value} (hd : d < e.objs.length)
    (hobj : RepObj w (G.at_ d nv) (e.setObj d (e.gen d + 1) k) base d k)
    (hinj : ∀ b, blkOf nv = some b → ∀ d', d' ≠ d → d' < e.objs.length → (e.kind d').live = true → blkOf (G.sv d') ≠ some b) :
    Rel base w0 ok0 (e.setObj d (e.gen d + 1) k) a w (G.at_ d nv) :=
  h.change hd (Weaker.newer hd (by omega)) (Below.refl _ _) (fun _ _ _ _ _ => rfl) (fun _ _ _ => SameAt.refl) (fun hh => by omega) (fun hh => by omega) (by omega) hobj (fun _ => hinj)

theorem ownsRow_base {b b' E c n : Nat} {v : Value} {xs : List Value} (h : w.ownsRow b E c v n xs) (hb : b' ≤ b) : w.ownsRow b' E c v n xs := by
  refine ⟨h.1, ?_⟩
  rcases h.2 with hn | ⟨g, cap, cur, q1, q2, q3⟩
  · exact .inl hn
  · exact .inr ⟨g, cap, cur, q1, by omega, q3⟩

theorem applyRes_mk {e e' : Env} {dst : Option Nat} {k : OK} {W : Option (Nat × List AV)} (h : applyRes e dst (.mk k W) = some e') : ∃ d, dst = some d ∧ d < e.objs.length ∧ e' = (e.setObj d (e.gen d + 1) k).put dst (k.refW W d (e.gen d + 1)) := by
  unfold applyRes at h
  cases dst with
  | none => simp at h
  | some d =>
    simp only at h
    by_cases hd : d < e.objs.length
    · rw [if_pos hd] at h; exact ⟨d, rfl, hd, by cases h; rfl⟩
    · rw [if_neg hd] at h; cases h

/-- A new variable of the function's own, its cells told. -/
theorem sim_newbox (h : Rel base w0 ok0 e a w G) {T : TypeId} {vs : Array Value} {l : List AV} {ks : List Nat}
    (hrun : (execOp a.eval o).run P w = .ok (.value (.pointer (some ⟨w.heap.size, 0, none⟩))) (w.alloc (.cells vs T)))
    (hs : vs.size = l.length) (hr : ∀ j, j < l.length → RepR w (G.frz e ks).ok (vs.getD j undef) (l.getD j .unk) ∧ (l.getD j .unk).pure = true)
    (he : applyRes (e.freeze ks) o.dst (.mk (.box l) none) = some e') (hK : ∀ a' w' G', Rel base w0 ok0 e' a' w' G' → K a' w') : o.wp P a w K Q := by
  obtain ⟨d, hdst, hd, rfl⟩ := applyRes_mk he
  have h1 := h.freeze ks
  have hB := below_alloc' w (.cells vs T)
  have h2 := h1.world hB (fun _ _ => False) (fun b o hh => hh.elim)
  have hnew : ∀ o, ¬ (G.frz e ks).ok w.heap.size o := fun o hh => by have := h1.okb _ _ hh; omega
  have hcell : ∀ b o, (G.frz e ks).ok b o → SameAt w (w.alloc (.cells vs T)) b o := fun b o hb => SameAt.of_block (hB.block b (h1.okb b o hb))
  have h3 := h2.make (d := d) (k := .box l) (nv := .pointer (some ⟨w.heap.size, 0, none⟩)) hd
    ⟨w.heap.size, vs, T, by simp [Gh.at_], h1.base_le, heap_alloc_new w _, hs, fun j hj => ⟨RepR.toT (RepR.mono (fun b o hb => .inl hb) hcell (hr j hj).1), AV.pure_cell1 (hr j hj).2⟩, fun o hh => by
      rcases hh with hh | hh
      · exact hnew o hh
      · exact hh⟩
    (fun b hb d' hdd hd' hl hc => by
      simp [blkOf] at hb
      subst hb
      have := (h1.blk hd' hl hc).2
      omega)
  refine wp_value hrun (hK _ _ _ (h3.put o.dst ?_))
  refine ⟨by rw [Env.setObj_len]; exact hd, by rw [Env.setObj_gen _ _ _ _ _ hd, if_pos rfl]; exact Nat.le_refl _, fun l' hk' => ⟨w.heap.size, by simp [Gh.at_], rfl⟩⟩

theorem sim_box (h : Rel base w0 ok0 e a w G) {T : TypeId} {x : Operand} {x' : X} (hx : compX x = some x') (ho : o.op = .box T x)
    (he : evalO R e o.dst (.box T x') = some e') (hK : ∀ a' w' G', Rel base w0 ok0 e' a' w' G' → K a' w') : o.wp P a w K Q := by
  simp only [evalO, act] at he
  cases hc : e.cells (e.get x') with
  | none => simp [hc] at he
  | some r =>
    obtain ⟨l, ks⟩ := r
    simp only [hc] at he
    obtain ⟨c1, c2⟩ := cells_rep h (compX_rep hx h) hc
    refine sim_newbox h (T := T) (vs := (a.eval x).cells) ?_ c1 c2 he hK
    simp [execOp, ho, Instr.box, newVar, newRow]

theorem sim_new (h : Rel base w0 ok0 e a w G) {T : TypeId} {z : List AV × Nat × Nat} (ho : o.op = .alloc T) (hz : zeroOf P T = some z)
    (he : evalO R e o.dst (.new T z.1) = some e') (hK : ∀ a' w' G', Rel base w0 ok0 e' a' w' G' → K a' w') : o.wp P a w K Q := by
  simp only [evalO, act] at he
  obtain ⟨i, zv, z1, z2, z3, _, _, _, _⟩ := zeroOf_spec hz
  obtain ⟨r1, r2⟩ := zero_rep z3 w (G.frz e []).ok
  refine sim_newbox h (T := T) (vs := zv.cells) ?_ r1 r2 he hK
  simp [execOp, ho, Instr.alloc, zeroValue, typeInfo, z1, z2, newVar, newRow]

theorem madeCells_getD (z : Array Value) (c n i j : Nat) (hz : z.size = c) (hi : i < n) (hj : j < c) : (madeCells z (n * c)).toList.getD (i * c + j) undef = z.getD j undef := by
  have hlt : i * c + j < n * c := by
    have : (i + 1) * c ≤ n * c := Nat.mul_le_mul_right c hi
    rw [Nat.add_mul] at this; omega
  have hm : (i * c + j) % c = j := by rw [Nat.add_comm, Nat.add_mul_mod_self_right]; exact Nat.mod_eq_of_lt hj
  have hj' : j < z.size := by omega
  unfold madeCells
  simp only [List.getD_eq_getElem?_getD, Array.getElem?_toList, Array.getElem?_map, Array.getElem?_range, hlt, if_true, Option.map_some, Option.getD_some, hz, hm]
  rw [getElem!_pos z j hj']
  simp [hj']

theorem sim_mk (h : Rel base w0 ok0 e a w G) {t el : TypeId} {l c : Operand} {n : X} {z : List AV × Nat × Nat} (ho : o.op = .makeSlice t l c) (ht : P.underlying t = some (.slice el)) (hz : zeroOf P el = some z) (hn : compX l = some n)
    (hlc : a.eval c = a.eval l)
    (he : evalO R e o.dst (.mk el z.2.1 z.2.2 z.1 n) = some e') (hK : ∀ a' w' G', Rel base w0 ok0 e' a' w' G' → K a' w') : o.wp P a w K Q := by
  simp only [evalO, act] at he
  have h1 := compX_rep hn h
  cases hg : e.get n <;> simp only [hg] at he h1 <;> try (cases he; done)
  rename_i k m
  by_cases hb : 0 ≤ m ∧ m * (z.2.2 : Int) ≤ 140737488355328 ∧ m ≤ 9223372036854775807
  case neg => rw [if_neg hb] at he; cases he
  rw [if_pos hb] at he
  simp only at he
  obtain ⟨d, hdst, hd, rfl⟩ := applyRes_mk he
  have e1 := inv_int h1
  obtain ⟨i, zv, z1, z2, z3, z4, z5, z6, z7⟩ := zeroOf_spec hz
  obtain ⟨mn, rfl⟩ := Int.eq_ofNat_of_zero_le hb.1
  have hby : i.bytes * mn ≤ 281474976710656 := by
    have h2 := hb.2.1
    rw [← z6] at h2
    have h3 : (((mn * i.bytes : Nat)) : Int) ≤ 140737488355328 := by rw [Int.natCast_mul]; exact h2
    have h4 : mn * i.bytes ≤ 140737488355328 := by omega
    rw [Nat.mul_comm]; omega
  have hml : mn ≤ maxLen := by simp only [maxLen]; have := hb.2.2; omega
  obtain ⟨w', hr, hown, hgr⟩ := run_make_full (P := P) w base t el i zv i.size ht z1 z2 rfl k k mn hby hml h.base_le
  have hB : Below w.heap.size w w' := ⟨hgr.os, hgr.tape, hgr.output, hgr.size, fun q hq => hgr.block q hq (by simp)⟩
  have h2 := (h.freeze []).world hB (fun _ _ => False) (fun b o hh => hh.elim)
  have hnew : ∀ o, ¬ G.ok w.heap.size o := fun o hh => by have := h.okb _ _ hh; omega
  have hzc : z.2.1 = i.size := z5.symm
  have hrep := fun ok => (zero_rep z3 w' ok).2
  have h3 := h2.make (d := d) (k := .row el z.2.1 0 (List.replicate (mn : Int).toNat z.1)) (nv := .slice (some ⟨w.heap.size, 0, none⟩) mn mn) hd
    ⟨Nat.zero_le _, fun q hq => by
        simp at hq
        simp [List.getD_eq_getElem?_getD, hq]
        omega,
      (madeCells zv.cells (mn * i.size)).toList, by
        rw [hzc]
        simpa [Gh.at_] using hown, fun q j hq hj => by
        simp at hq
        have hqq : (List.replicate (mn : Int).toNat z.1).getD q [] = z.1 := by simp [List.getD_eq_getElem?_getD, hq]
        rw [hqq, hzc, madeCells_getD zv.cells i.size mn q j z7 (by omega) (by omega)]
        exact hrep _ j (by omega), fun b hb' o' ho' => by
        have : b = w.heap.size := by simpa [Gh.at_, blkOf] using hb'.symm
        subst this
        rcases ho' with hh | hh
        · exact absurd hh (hnew o')
        · exact hh.elim⟩
    (fun b hb' d' hdd hd' hl hc => by
      simp [blkOf] at hb'
      subst hb'
      have := (h.blk hd' hl hc).2
      omega)
  refine wp_value (v := .slice (some ⟨w.heap.size, 0, none⟩) mn mn) (w' := w') ?_ (hK _ _ _ (h3.put o.dst ?_))
  · simp only [execOp, ho, Sem.run_bind, hlc, e1, hr, Result.andThen_ok, Sem.run_pure]
  · refine ⟨by rw [Env.setObj_len]; exact hd, by rw [Env.setObj_gen _ _ _ _ _ hd, if_pos rfl]; exact Nat.le_refl _, fun E c f l' hk' => by simp [Gh.at_]⟩

def AV.isFr : AV → Bool
  | .fr .. => true
  | .fr1 .. => true
  | _ => false
theorem RepRes.val {b : Nat} {ok : Nat → Nat → Prop} {w' : World} {v : Value} {A : AV} (h : RepRes b ok w' v A) (hA : A.isFr = false) : RepR w' (okAfter b ok w' none) v A := by
  cases A <;> first | exact h | (cases hA; done)

/-- What a call gives. -/
def callRes (r : Option AV) (ks : List Nat) : Option (Res × List Nat) := match r with
  | some (.fr E c l) => some (.mk (.row E c 0 l) none, ks)
  | some (.fr1 j E c m l) => if j < l.length ∧ l.all AV.pure = true then some (.mk (.row E c 0 m) (some (j, l)), ks) else none
  | some A => if A.noRef = true then some (.val A, ks) else none
  | none => none

theorem sim_enter (h : Rel base w0 ok0 e a w G) {f : Nat} {vs : List Value} {as : List AV} {ks : List Nat} {A : AV} (hrun : (execOp a.eval o).run P w = .ok (.enter f vs.toArray) w) (hspec : VSpec P f as A) (hl : vs.length = as.length)
    (hv : ∀ j, j < as.length → RepR w (G.frz e ks).ok (vs.getD j undef) (as.getD j .unk))
    (he : (match callRes (some A) ks with | some (r, ks) => applyRes (e.freeze ks) o.dst r | none => none) = some e') (hK : ∀ a' w' G', Rel base w0 ok0 e' a' w' G' → K a' w') : o.wp P a w K Q := by
  have hfz := h.freeze ks
  have hspec := hspec w vs (G.frz e ks).ok hfz.okb hl hv
  unfold Oper.wp
  rw [hrun]
  show Calls P f vs.toArray w _
  refine hspec.mono ?_
  rintro en w' ⟨v, rfl, hB, hres⟩
  show K (a.put o.dst v) w'
  by_cases hfr : ∃ E c' l, A = .fr E c' l
  · obtain ⟨E, c', l, rfl⟩ := hfr
    simp only [callRes] at he
    obtain ⟨d, hdst, hd, rfl⟩ := applyRes_mk he
    obtain ⟨l1, ys, l2, l3⟩ := hres
    have h2 := hfz.world hB (fun b o => w.heap.size ≤ b ∧ b < w'.heap.size ∧ some b ≠ blkOf v) (fun b o hh => ⟨hh.1, hh.2.1⟩)
    have hnewb : ∀ b, blkOf v = some b → w.heap.size ≤ b := fun b hb' => (ownBlock_blkOf l2 hb').2.1
    have h3 := h2.make (d := d) (k := .row E c' 0 l) (nv := v) hd
      ⟨Nat.zero_le _, l1, ys, by simpa [Gh.at_] using ownsRow_base l2 h.base_le, fun q j hq hj => ⟨RepR.mono (fun b o hh => by
          rcases hh with hh | hh
          · exact .inl hh.2
          · exact .inr hh) (fun _ _ _ => SameAt.refl) (l3 q j hq hj).1, (l3 q j hq hj).2⟩, fun b hb' o' ho' => by
          have hb'' : blkOf v = some b := by simpa [Gh.at_] using hb'
          rcases ho' with hh | hh
          · have := hfz.okb _ _ hh; have := hnewb b hb''; omega
          · exact absurd hb''.symm hh.2.2⟩
      (fun b hb' d' hdd hd' hl hc' => by
        have := (hfz.blk hd' hl hc').2
        have := hnewb b hb'
        omega)
    refine hK _ _ _ (h3.put o.dst ?_)
    exact ⟨by rw [Env.setObj_len]; exact hd, by rw [Env.setObj_gen _ _ _ _ _ hd, if_pos rfl]; exact Nat.le_refl _, fun E c f l' hk' => by simp [Gh.at_]⟩
  by_cases hfr1 : ∃ j E c' m l, A = .fr1 j E c' m l
  · obtain ⟨j, E, c', m, l, rfl⟩ := hfr1
    simp only [callRes] at he
    by_cases hjl : j < l.length ∧ l.all AV.pure = true
    case neg => rw [if_neg hjl] at he; cases he
    rw [if_pos hjl] at he
    obtain ⟨d, hdst, hd, rfl⟩ := applyRes_mk he
    obtain ⟨us, rfl, u1, u2, ⟨l1, ys, l2, l3⟩, l4⟩ := hres
    have h2 := hfz.world hB (fun b o => w.heap.size ≤ b ∧ b < w'.heap.size ∧ some b ≠ blkOf (us.getD j undef)) (fun b o hh => ⟨hh.1, hh.2.1⟩)
    have hnewb : ∀ b, blkOf (us.getD j undef) = some b → w.heap.size ≤ b := fun b hb' => (ownBlock_blkOf l2 hb').2.1
    have hok : ∀ b o, okAfter w.heap.size (G.frz e ks).ok w' (blkOf (us.getD j undef)) b o → (G.frz e ks).ok b o ∨ (w.heap.size ≤ b ∧ b < w'.heap.size ∧ some b ≠ blkOf (us.getD j undef)) := fun b o hh => by
      rcases hh with hh | hh
      · exact .inl hh.2
      · exact .inr hh
    have h3 := h2.make (d := d) (k := .row E c' 0 m) (nv := us.getD j undef) hd
      ⟨Nat.zero_le _, l1, ys, by simpa [Gh.at_] using ownsRow_base l2 h.base_le, fun q k hq hk => ⟨RepR.mono (fun b o hh => hok b o hh) (fun _ _ _ => SameAt.refl) (l3 q k hq hk).1, (l3 q k hq hk).2⟩, fun b hb' o' ho' => by
          have hb'' : blkOf (us.getD j undef) = some b := by simpa [Gh.at_] using hb'
          rcases ho' with hh | hh
          · have := hfz.okb _ _ hh; have := hnewb b hb''; omega
          · exact absurd hb''.symm hh.2.2⟩
      (fun b hb' d' hdd hd' hl hc' => by
        have := (hfz.blk hd' hl hc').2
        have := hnewb b hb'
        omega)
    refine hK _ _ _ (h3.put o.dst ?_)
    exact ⟨by rw [Env.setObj_len]; exact hd, by rw [Env.setObj_gen _ _ _ _ _ hd, if_pos rfl]; exact Nat.le_refl _, us, rfl, u1, u2, fun i hi hij => ⟨RepR.mono (fun b o hh => hok b o hh) (fun _ _ _ => SameAt.refl) (l4 i hi hij).1, (l4 i hi hij).2⟩,
      fun A hA => List.all_eq_true.1 hjl.2 A hA, fun E c f l' hk' => by simp [Gh.at_]⟩
  · have hA : A.isFr = false := by
      cases A <;> first | rfl | exact absurd ⟨_, _, _, rfl⟩ hfr | exact absurd ⟨_, _, _, _, _, rfl⟩ hfr1
    have he' : applyRes (e.freeze ks) o.dst (.val A) = some e' := by
      by_cases hnr : A.noRef = true
      · cases A <;> first | (simp only [callRes, hnr, if_true] at he; exact he) | (cases hA; done)
      · cases A <;> first | (simp only [callRes, hnr, if_false] at he; cases he; done) | (cases hA; done)
    cases he'
    have h2 := hfz.world hB (fun b o => w.heap.size ≤ b ∧ b < w'.heap.size ∧ some b ≠ none) (fun b o hh => ⟨hh.1, hh.2.1⟩)
    refine hK _ _ _ (h2.put o.dst (RepR.toT ?_))
    exact RepR.mono (fun b o hh => by
      rcases hh with hh | hh
      · exact .inl hh.2
      · exact .inr hh) (fun _ _ _ => SameAt.refl) (RepRes.val hres hA)

theorem run_call {f : Nat} {fn : Func} {c : Call} (ho : o.op = .call c) (hc : c.callee = .value (.func f)) (hf : P.funcs[f]? = some fn) (hn : (fn.name == "runtime.NumGoroutine") = false) (hb : fn.body.isSome = true) :
    (execOp a.eval o).run P w = .ok (.enter f (c.args.map a.eval)) w := by
  have hn' : ¬ fn.name = "runtime.NumGoroutine" := by simpa using hn
  have hb' : ¬ fn.body = none := by intro hh; rw [hh] at hb; cases hb
  simp [execOp, ho, resolve, hc, Act.eval, Deferred.ofValue, invoke, callFunc, hf, hn', hb']

theorem sim_call (hR : VSound P R) (h : Rel base w0 ok0 e a w G) {f : Nat} {fn : Func} {c : Call} {xs : List X} (ho : o.op = .call c) (hc : c.callee = .value (.func f)) (hf : P.funcs[f]? = some fn) (hn : (fn.name == "runtime.NumGoroutine") = false) (hb : fn.body.isSome = true)
    (hxs : compXs c.args.toList = some xs)
    (he : evalO R e o.dst (.call f xs) = some e') (hK : ∀ a' w' G', Rel base w0 ok0 e' a' w' G' → K a' w') : o.wp P a w K Q := by
  simp only [evalO, act] at he
  cases hargs : e.args xs with
  | none => simp [hargs] at he
  | some r =>
    obtain ⟨as, ks⟩ := r
    simp only [hargs] at he
    obtain ⟨x1, x2⟩ := compXs_rep hxs h
    obtain ⟨m1, m2⟩ := args_rep h (vs := fun j => (c.args.toList.map a.eval).getD j undef) x2 hargs
    cases hr : R f as with
    | none => simp [hr] at he
    | some A =>
      rw [hr] at he
      have ea : (c.args.toList.map a.eval).toArray = c.args.map a.eval := by apply Array.ext'; simp
      exact sim_enter h (vs := c.args.toList.map a.eval) (by rw [ea]; exact run_call ho hc hf hn hb) (hR f as A hr).1 (by simp [m1, x1]) (fun j hj => m2 j (by omega)) he hK

theorem run_calld {t : Nat} {f : Nat} {cs : Array Value} {c : Call} (ho : o.op = .call c) (hc : c.callee = .value (.tmp t)) (hv : a.tmps.getD t undef = .func (.func f) #[] cs) (hf : callable P f = true) :
    (execOp a.eval o).run P w = .ok (.enter f (c.args.map a.eval ++ cs)) w := by
  unfold callable at hf
  cases hfn : P.funcs[f]? with
  | none => simp [hfn] at hf
  | some fn =>
    simp only [hfn, Bool.and_eq_true, Bool.not_eq_true'] at hf
    have hn' : ¬ fn.name = "runtime.NumGoroutine" := by simpa using hf.1
    have hb' : ¬ fn.body = none := by intro hh; rw [hh] at hf; cases hf.2
    have he : a.eval (.tmp t) = .func (.func f) #[] cs := hv
    simp [execOp, ho, resolve, hc, he, Deferred.ofValue, invoke, callFunc, hfn, hn', hb']

theorem inv_fn {w : World} {G : Gh} {v : Value} {f : Nat} {l : List AV} (h : RepT w G e v (.fn f l)) : ∃ cs : Array Value, v = .func (.func f) #[] cs ∧ cs.size = l.length ∧ ∀ j, j < l.length → RepR w G.ok (cs.getD j undef) (l.getD j .unk) := by
  cases h with
  | fn f vs l hs hp hr => exact ⟨vs, rfl, hs, hr⟩

theorem sim_calld (hR : VSound P R) (h : Rel base w0 ok0 e a w G) {t : Nat} {c : Call} {xs : List X} (ho : o.op = .call c) (hc : c.callee = .value (.tmp t))
    (hxs : compXs c.args.toList = some xs)
    (he : evalO R e o.dst (.calld (.t t) xs) = some e') (hK : ∀ a' w' G', Rel base w0 ok0 e' a' w' G' → K a' w') : o.wp P a w K Q := by
  simp only [evalO, act] at he
  have hx0 : compX (.tmp t) = some (.t t) := rfl
  have hrep := compX_rep hx0 h
  cases hg : e.get (.t t) <;> simp only [hg] at he hrep <;> try (cases he; done)
  rename_i f l
  obtain ⟨cs, hv, hs, hcs⟩ := inv_fn hrep
  cases hargs : e.args xs with
  | none => simp [hargs] at he
  | some r =>
    obtain ⟨as, ks⟩ := r
    simp only [hargs] at he
    obtain ⟨x1, x2⟩ := compXs_rep hxs h
    obtain ⟨m1, m2⟩ := args_rep h (vs := fun j => (c.args.toList.map a.eval).getD j undef) x2 hargs
    cases hr : R f (as ++ l) with
    | none => simp [hr] at he
    | some A =>
      rw [hr] at he
      obtain ⟨hsp, hcl⟩ := hR f (as ++ l) A hr
      have ea : (c.args.toList.map a.eval ++ cs.toList).toArray = c.args.map a.eval ++ cs := by apply Array.ext'; simp
      have hlen : (c.args.toList.map a.eval).length = as.length := by simp [m1, x1]
      refine sim_enter h (vs := c.args.toList.map a.eval ++ cs.toList) (by rw [ea]; exact run_calld ho hc hv hcl) hsp (by simp only [List.length_append, hlen, Array.length_toList, hs]) (fun j hj => ?_) he hK
      rcases Nat.lt_or_ge j as.length with hlt | hge
      · have e1 : (c.args.toList.map a.eval ++ cs.toList).getD j undef = (c.args.toList.map a.eval).getD j undef := by
          simp only [List.getD_eq_getElem?_getD, List.getElem?_append_left (show j < (c.args.toList.map a.eval).length by omega)]
        have e2 : (as ++ l).getD j .unk = as.getD j .unk := by simp only [List.getD_eq_getElem?_getD, List.getElem?_append_left hlt]
        rw [e1, e2]
        exact m2 j (by omega)
      · have e1 : (c.args.toList.map a.eval ++ cs.toList).getD j undef = cs.getD (j - as.length) undef := by
          simp only [List.getD_eq_getElem?_getD, List.getElem?_append_right (show (c.args.toList.map a.eval).length ≤ j by omega), hlen]
          rw [Array.getD_eq_getD_getElem?, Array.getElem?_toList]
        have e2 : (as ++ l).getD j .unk = l.getD (j - as.length) .unk := by simp only [List.getD_eq_getElem?_getD, List.getElem?_append_right hge]
        rw [e1, e2]
        exact RepR.mono (fun b o hb => Gh.frz_ok ks hb) (fun _ _ _ => SameAt.refl) (hcs (j - as.length) (by simp at hj; omega))

theorem args_shape : ∀ {xs : List X} {as : List AV} {ks : List Nat}, e.args xs = some (as, ks) → ∀ j, j < as.length → (as.getD j .unk).pure = true ∨ ∃ m, as.getD j .unk = .agg m
  | [], as, ks, h => by
    simp only [Env.args, Option.some.injEq, Prod.mk.injEq] at h
    obtain ⟨rfl, _⟩ := h
    exact fun j hj => absurd hj (by simp)
  | x :: xs, as, ks, h => by
    simp only [Env.args] at h
    cases h1 : e.arg (e.get x) with
    | none => simp [h1] at h
    | some q =>
      obtain ⟨B, k1⟩ := q
      cases h2 : e.args xs with
      | none => simp [h1, h2] at h
      | some q =>
        obtain ⟨l, k2⟩ := q
        simp only [h1, h2, Option.some.injEq, Prod.mk.injEq] at h
        obtain ⟨rfl, _⟩ := h
        have hB : B.pure = true ∨ ∃ m, B = .agg m := by
          generalize e.get x = A at h1
          by_cases hagg : (∃ l, A = .agg l) ∨ ∃ j d g l0, A = .aggo j d g l0
          · right
            rcases hagg with ⟨l0, rfl⟩ | ⟨j, d, g, l0, rfl⟩
            · simp only [Env.arg] at h1
              cases hv : e.views l0 with
              | none => simp [hv] at h1
              | some q => simp only [hv, Option.some.injEq, Prod.mk.injEq] at h1; exact ⟨_, h1.1.symm⟩
            · simp only [Env.arg] at h1
              cases hv : e.views (l0.set j (.own d g)) with
              | none => simp [hv] at h1
              | some q => simp only [hv, Option.some.injEq, Prod.mk.injEq] at h1; exact ⟨_, h1.1.symm⟩
          · left
            have : e.arg A = match e.view1 A with
                | some (B, ks) => some (B.norm, ks)
                | none => none := by cases A <;> first | rfl | exact absurd (.inl ⟨_, rfl⟩) hagg | exact absurd (.inr ⟨_, _, _, _, rfl⟩) hagg
            rw [this] at h1
            cases hv : e.view1 A with
            | none => simp [hv] at h1
            | some q =>
              obtain ⟨D, k⟩ := q
              simp only [hv, Option.some.injEq, Prod.mk.injEq] at h1
              rw [← h1.1]
              refine AV.norm_pure ?_
              cases A <;> simp only [Env.view1] at hv <;> (repeat' split at hv) <;> first | (cases hv; done) | (simp only [Option.some.injEq, Prod.mk.injEq] at hv; rw [← hv.1]; rfl)
        intro j hj
        cases j with
        | zero => exact hB
        | succ j => exact args_shape h2 j (by simpa using hj)

theorem sim_clo (h : Rel base w0 ok0 e a w G) {f : Nat} {first caps : Array Operand} {xs : List X} (ho : o.op = .makeFunc (.func f) first caps) (h0 : first.size = 0) (hxs : compXs caps.toList = some xs)
    (he : evalO R e o.dst (.clo f xs) = some e') (hK : ∀ a' w' G', Rel base w0 ok0 e' a' w' G' → K a' w') : o.wp P a w K Q := by
  simp only [evalO, act] at he
  cases hargs : e.args xs with
  | none => simp [hargs] at he
  | some r =>
    obtain ⟨as, ks⟩ := r
    simp only [hargs] at he
    obtain ⟨x1, x2⟩ := compXs_rep hxs h
    obtain ⟨m1, m2⟩ := args_rep h (vs := fun j => (caps.toList.map a.eval).getD j undef) x2 hargs
    have hf0 : first = #[] := Array.eq_empty_of_size_eq_zero h0
    refine sim_val h (v := .func (.func f) #[] (caps.map a.eval)) ?_ (RepR.toT (.fn f _ as (by simp [m1, x1]) (args_shape hargs) (fun j hj => ?_))) he hK
    · simp [execOp, ho, hf0, Instr.makeFunc]
    · have := m2 j (by omega)
      have e1 : (caps.map a.eval).getD j undef = (caps.toList.map a.eval).getD j undef := by
        rw [List.getD_eq_getElem?_getD, ← Array.toList_map, Array.getElem?_toList, Array.getD_eq_getD_getElem?]
      rw [e1]; exact this

end
end Go.Bv
