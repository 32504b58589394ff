import Derived.Test.YtnfmilnlekmjgaaBvOps4
set_option linter.unusedVariables false
set_option linter.unusedSimpArgs false
namespace Go.Bv
open Go.RowKit

section
variable {P : Program} {base : Nat} {w0 : World} {ok0 : Nat → Nat → Prop} {e : Env} {a : Act} {w : World} {G : Gh}
variable {R : Nat → List AV → Option AV} {o : Oper} {K : Act → World → Prop} {Q : Exit → Act → World → Prop} {e' : Env}

/-! ### Literals of slices -/
theorem lits_rep (h : Rel base w0 ok0 e a w G) (c : Nat) :
    ∀ (ps : List (Nat × Operand)) (i0 : Nat) (xs : List X) (l : List (List AV)) (ks : List Nat) (cs : Array Value),
      ps.map (·.1) = List.range' i0 ps.length → compXs (ps.map (·.2)) = some xs → lits e c xs = some (l, ks) → (i0 + ps.length) * c ≤ cs.size →
      ∃ cells, Instr.fill (fun i => some (i * c, c)) cs (ps.map fun p => (p.1, a.eval p.2)) = some cells ∧ cells.size = cs.size ∧ (∀ k, k < i0 * c → cells.getD k undef = cs.getD k undef) ∧
        l.length = ps.length ∧ (∀ i, i < l.length → (l.getD i []).length = c) ∧
        ∀ i j, i < l.length → j < c → RepR w (G.frz e ks).ok (cells.getD ((i0 + i) * c + j) undef) ((l.getD i []).getD j .unk) ∧ ((l.getD i []).getD j .unk).pure = true := by
  intro ps
  induction ps with
  | nil =>
    intro i0 xs l ks cs hi hx hl hs
    simp [compXs] at hx
    subst hx
    simp [lits] at hl
    obtain ⟨rfl, rfl⟩ := hl
    exact ⟨cs, rfl, rfl, fun _ _ => rfl, rfl, fun i hi => absurd hi (by simp), fun i j hi => absurd hi (by simp)⟩
  | cons p ps ih =>
    intro i0 xs l ks cs hi hx hl hs
    obtain ⟨i, px⟩ := p
    simp only [List.map_cons, List.length_cons, List.range'_succ, List.cons.injEq] at hi
    obtain ⟨rfl, hi⟩ := hi
    simp only [List.map_cons, compXs] at hx
    cases h1 : compX px with
    | none => simp [h1] at hx
    | some y =>
      cases h2 : compXs (ps.map (·.2)) with
      | none => simp [h1, h2] at hx
      | some ys =>
        simp only [h1, h2, Option.some.injEq] at hx
        subst hx
        simp only [lits] at hl
        cases hc : e.cells (e.get y) with
        | none => simp [hc] at hl
        | some r =>
          obtain ⟨m, k1⟩ := r
          simp only [hc] at hl
          by_cases hm : m.length = c
          case neg => rw [if_neg hm] at hl; cases hl
          rw [if_pos hm] at hl
          cases h3 : lits e c ys with
          | none => simp [h3] at hl
          | some r =>
            obtain ⟨l2, k2⟩ := r
            simp only [h3, Option.some.injEq, Prod.mk.injEq] at hl
            obtain ⟨rfl, rfl⟩ := hl
            obtain ⟨c1, c2⟩ := cells_rep h (compX_rep h1 h) hc
            simp only [List.length_cons] at hs
            have hfit : i * c + (a.eval px).cells.size ≤ cs.size := by
              rw [c1, hm]
              have h5 : (i + 1) * c ≤ (i + (ps.length + 1)) * c := Nat.mul_le_mul_right c (by omega)
              rw [Nat.add_mul, Nat.one_mul] at h5
              omega
            obtain ⟨f1, f2⟩ := zipFold (i * c) (a.eval px).cells cs hfit
            obtain ⟨cells, g1, g2, g3, g4, g5, g6⟩ := ih (i + 1) ys l2 k2 _ (by simpa using hi) h2 h3 (by rw [f1]; have e5 : i + 1 + ps.length = i + (ps.length + 1) := by omega
                                                                                                          rw [e5]; exact hs)
            refine ⟨cells, ?_, by rw [g2, f1], fun k hk => ?_, by simp [g4], fun q hq => ?_, fun q j hq hj => ?_⟩
            · simp only [List.map_cons, Instr.fill]
              rw [if_neg (by rw [c1, hm]; rw [c1, hm] at hfit; simp; omega)]
              exact g1
            · rw [g3 k (by rw [Nat.add_mul]; omega), f2 k, if_pos hk]
            · cases q with
              | zero => exact hm
              | succ q => exact g5 q (by simpa using hq)
            · cases q with
              | zero =>
                have hk : (i + 0) * c + j < (i + 1) * c := by rw [Nat.add_zero, Nat.add_mul]; omega
                rw [g3 _ hk, f2, if_neg (by simp), if_pos (by rw [c1, hm]; simp; omega)]
                have e6 : (i + 0) * c + j - i * c = j := by simp
                rw [e6]
                have := c2 j (by omega)
                exact ⟨RepR.mono (fun b o hb => Gh.frz_sub (fun x hx => List.mem_append_left k2 hx) hb) (fun _ _ _ => SameAt.refl) this.1, this.2⟩
              | succ q =>
                have := g6 q j (by simpa using hq) hj
                have e7 : i + (q + 1) = i + 1 + q := by omega
                rw [e7]
                exact ⟨RepR.mono (fun b o hb => Gh.frz_sub (fun x hx => List.mem_append_right k1 hx) hb) (fun _ _ _ => SameAt.refl) this.1, this.2⟩

theorem sim_lit (h : Rel base w0 ok0 e a w G) {t el : TypeId} {len : Nat} {parts : Array (Nat × Operand)} {z : List AV × Nat × Nat} {xs : List X} (ho : o.op = .buildSlice t len parts)
    (ht : P.underlying t = some (.slice el)) (hz : zeroOf P el = some z) (hx : compXs (parts.toList.map (·.2)) = some xs) (hi : parts.toList.map (·.1) = List.range len) (hpos : 0 < z.2.1) (hbig : len * z.2.1 ≤ 16777216)
    (he : evalO R e o.dst (.lit el z.2.1 xs) = some e') (hK : ∀ a' w' G', Rel base w0 ok0 e' a' w' G' → K a' w') : o.wp P a w K Q := by
  simp only [evalO, act] at he
  cases hl : lits e z.2.1 xs with
  | none => simp [hl] at he
  | some r =>
    obtain ⟨l, ks⟩ := r
    simp only [hl] at he
    obtain ⟨i, zv, z1, z2, z3, z4, z5, z6, z7⟩ := zeroOf_spec hz
    have hlen : parts.toList.length = len := by have := congrArg List.length hi; simpa using this
    let cs : Array Value := (Array.range (len * z.2.1)).map (fun k => (if len * z.2.1 = 0 then (#[] : Array Value) else zv.cells)[k % (if len * z.2.1 = 0 then (#[] : Array Value) else zv.cells).size]!)
    have hcs : cs.size = len * z.2.1 := by simp [cs]
    obtain ⟨cells, g1, g2, g3, g4, g5, g6⟩ := lits_rep h z.2.1 parts.toList 0 xs l ks cs (by rw [hi, List.range_eq_range', hlen]) hx hl (by rw [hcs, hlen]; simp)
    have hsz : sizeOf? P el = some z.2.1 := by simp [sizeOf?, z1, z5]
    have hrun : (execOp a.eval o).run P w = .ok (.value (.slice (some ⟨w.heap.size, 0, none⟩) len len)) (w.alloc (.cells cells el)) := by
      have hnb : ¬ (16777216 < len * z.2.1) := by omega
      have hparts : (parts.map fun (x : Nat × Operand) => match x with | (i, x) => (i, a.eval x)).toList = parts.toList.map fun p => (p.1, a.eval p.2) := by simp
      by_cases h0 : len * z.2.1 = 0
      · have g1' : Instr.fill (fun i => some (i * z.2.1, z.2.1)) ((Array.range (len * z.2.1)).map (fun k => (#[] : Array Value)[k % (#[] : Array Value).size]!)) (parts.toList.map fun p => (p.1, a.eval p.2)) = some cells := by
          simpa only [cs, h0, if_true] using g1
        simp only [execOp, ho, Sem.run_bind, Instr.buildSlice, run_underlying ht, Result.andThen_ok, run_sizeOf hsz, hparts]
        rw [if_neg (by simpa using hnb)]
        simp only [Sem.run_bind, Sem.run_pure, Result.andThen_ok]
        rw [if_pos h0]
        simp only [Sem.run_bind, Sem.run_pure, Result.andThen_ok]
        rw [g1']
        simp [newRow]
      · have g1' : Instr.fill (fun i => some (i * z.2.1, z.2.1)) ((Array.range (len * z.2.1)).map (fun k => zv.cells[k % zv.cells.size]!)) (parts.toList.map fun p => (p.1, a.eval p.2)) = some cells := by
          simpa only [cs, h0, if_false] using g1
        have hzr : (zeroValue el).run P w = .ok zv w := by simp [zeroValue, typeInfo, z1, z2]
        simp only [execOp, ho, Sem.run_bind, Instr.buildSlice, run_underlying ht, Result.andThen_ok, run_sizeOf hsz, hparts]
        rw [if_neg (by simpa using hnb)]
        simp only [Sem.run_bind, Sem.run_pure, Result.andThen_ok]
        rw [if_neg h0]
        simp only [Sem.run_bind, Sem.run_pure, Result.andThen_ok, hzr]
        rw [g1']
        simp [newRow]
    have hB := below_alloc' w (.cells cells el)
    have h2 := (h.freeze ks).world hB (fun b o => b = w.heap.size) (fun b o hh => by subst hh; simp)
    cases he
    refine wp_value hrun (hK _ _ _ (h2.put o.dst (RepR.toT ?_)))
    have hlen' : l.length = len := by rw [g4, hlen]
    have hcell : ∀ b o, (G.frz e ks).ok b o → SameAt w (w.alloc (.cells cells el)) b o := fun b o hb => SameAt.of_block (hB.block b ((h.freeze ks).okb b o hb))
    rw [← hlen']
    refine .sl w.heap.size 0 l.length z.2.1 l (fun i j => cells.getD (i * z.2.1 + j) undef) (Nat.le_refl _) g5 (fun q j hq hj => ⟨.inr rfl, ?_⟩) (fun q j hq hj => (g6 q j hq hj).2) (fun q j hq hj => ?_)
    · rw [cell_of_row _ w.heap.size _ cells el (0, 0) (heap_alloc_new w _)]
      have hlt : q * z.2.1 + j < cells.size := by
        rw [g2, hcs, ← hlen']
        have : (q + 1) * z.2.1 ≤ l.length * z.2.1 := Nat.mul_le_mul_right _ hq
        rw [Nat.add_mul] at this; omega
      rw [Nat.zero_add]
      simp [hlt]
    · have := (g6 q j hq hj).1
      rw [Nat.zero_add] at this
      exact RepR.mono (fun b o hb => .inl hb) hcell this

/-! ### Strings and bytes -/
theorem byteCells_len (s : ByteArray) : (byteCells s).length = s.size := by simp [byteCells]
theorem byteCells_getD (s : ByteArray) (i : Nat) (hi : i < s.data.size) : (byteCells s).getD i [] = [AV.int .u8 ((s.data[i]).toNat : Int)] := by
  have h1 : s.data[i]? = some s.data[i] := Array.getElem?_eq_getElem hi
  simp [byteCells, List.getD_eq_getElem?_getD, h1]

theorem sim_cvsb (h : Rel base w0 ok0 e a w G) {s d el : TypeId} {x : Operand} {x' : X} (hx : compX x = some x') (ho : o.op = .convert s d x) (hs : P.underlying s = some .string) (hd : P.underlying d = some (.slice el)) (hel : P.underlying el = some (.int .u8))
    (he : evalO R e o.dst (.cvsb x') = some e') (hK : ∀ a' w' G', Rel base w0 ok0 e' a' w' G' → K a' w') : o.wp P a w K Q := by
  simp only [evalO, act] at he
  have h1 := compX_rep hx h
  cases hgx : e.get x' <;> simp only [hgx] at he h1 <;> try (cases he; done)
  rename_i t
  by_cases hb : t.size ≤ 140737488355328
  case neg => rw [if_neg hb] at he; cases he
  rw [if_pos hb] at he
  simp only at he
  have e1 := inv_str h1
  have hr := run_bytes_of_string (P := P) w s d el t hs hd hel
  generalize hw' : w.drew.alloc (.cells (bytesRow t (grownCap w t.size 0 el)) el ((bytesRow t (grownCap w t.size 0 el)).size, (bytesRow t (grownCap w t.size 0 el)).size + 1)) = w' at hr
  have hcap : t.size ≤ grownCap w t.size 0 el := grownCap_ge w t.size 0 el
  have hB : Below w.heap.size w w' := by
    subst hw'
    exact ((Below.refl w.heap.size w).drew).alloc (Nat.le_refl _) _
  have hsz : w'.heap.size = w.heap.size + 1 := by subst hw'; simp
  have h2 := h.world hB (fun b o => b = w.heap.size) (fun b o hh => by subst hh; omega)
  cases he
  refine wp_value (v := .slice (some ⟨w.heap.size, 0, none⟩) t.size (grownCap w t.size 0 el)) (w' := w') ?_ (hK _ _ _ (h2.put o.dst (RepR.toT ?_)))
  · simp only [execOp, ho, Sem.run_bind, e1, hr, Result.andThen_ok, Sem.run_pure]
  · rw [← byteCells_len t]
    have hcl : ∀ i, i < (byteCells t).length → (byteCells t).getD i [] = [AV.int .u8 (((t.data.getD i 0)).toNat : Int)] := fun i hi => by
      rw [byteCells_len] at hi
      have hi' : i < t.data.size := hi
      rw [byteCells_getD t i hi']
      rw [Array.getD_eq_getD_getElem?, Array.getElem?_eq_getElem hi']
      rfl
    refine .sl w.heap.size 0 _ 1 (byteCells t) (fun i j => .int .u8 (((t.data.getD i 0)).toNat : Int)) (by rw [byteCells_len]; exact hcap) (fun i hi => by rw [hcl i hi]; rfl) (fun i j hi hj => ⟨.inr rfl, ?_⟩) (fun i j hi hj => ?_) (fun i j hi hj => ?_)
    · have hj0 : j = 0 := by omega
      subst hj0
      rw [byteCells_len] at hi
      have hi' : i < t.data.size := hi
      have hcell : w'.cell? ⟨w.heap.size, i, none⟩ = (bytesRow t (grownCap w t.size 0 el))[i]? := by
        subst hw'
        exact cell_of_row _ w.heap.size i _ el _ (heap_alloc_new w.drew _)
      simp only [Nat.zero_add, Nat.mul_one, Nat.add_zero]
      rw [hcell, bytesRow_at t _ i hi', Array.getD_eq_getD_getElem?, Array.getElem?_eq_getElem hi']
      rfl
    · have hj0 : j = 0 := by omega
      subst hj0
      rw [hcl i hi]; rfl
    · have hj0 : j = 0 := by omega
      subst hj0
      rw [hcl i hi]
      exact .int _ _

theorem bytesOf_spec : ∀ {l : List (List AV)} {bs : List UInt8}, bytesOf? l = some bs → bs.length = l.length ∧ ∀ i, i < l.length → ∃ n : Int, l.getD i [] = [AV.int .u8 n] ∧ bs.getD i 0 = UInt8.ofNat n.toNat
  | [], bs, h => by simp [bytesOf?] at h; subst h; exact ⟨rfl, fun i hi => absurd hi (by simp)⟩
  | x :: l, bs, h => by
    unfold bytesOf? at h
    split at h
    · rename_i heq; cases heq
    · rename_i n l' heq
      obtain ⟨rfl, rfl⟩ := List.cons.inj heq
      cases h1 : bytesOf? l with
      | none => simp [h1] at h
      | some bs' =>
        simp [h1] at h
        subst h
        obtain ⟨i1, i2⟩ := bytesOf_spec h1
        refine ⟨by simp [i1], fun i hi => ?_⟩
        cases i with
        | zero => exact ⟨n, rfl, rfl⟩
        | succ i => exact i2 i (by simpa using hi)
    · cases h

theorem foldl_push_all : ∀ (ns : List Int) (r : ByteArray), ns.foldl (fun r n => r.push (UInt8.ofNat n.toNat)) r = ⟨r.data ++ (ns.map fun n => UInt8.ofNat n.toNat).toArray⟩
  | [], r => by simp
  | n :: ns, r => by
    simp only [List.foldl_cons]
    rw [foldl_push_all ns]
    simp [ByteArray.push]

theorem sim_cvbs (h : Rel base w0 ok0 e a w G) {s d el : TypeId} {x : Operand} {x' : X} (hx : compX x = some x') (ho : o.op = .convert s d x) (hs : P.underlying s = some (.slice el)) (hd : P.underlying d = some .string) (hel : P.underlying el = some (.int .u8))
    (he : evalO R e o.dst (.cvbs x') = some e') (hK : ∀ a' w' G', Rel base w0 ok0 e' a' w' G' → K a' w') : o.wp P a w K Q := by
  simp only [evalO, act] at he
  have h1 := compX_rep hx h
  cases hm : e.elems (e.get x') with
  | none => simp [hm] at he
  | some r =>
    obtain ⟨l, ks⟩ := r
    simp only [hm] at he
    cases hbs : bytesOf? l with
    | none => simp [hbs] at he
    | some bs =>
      simp only [hbs] at he
      obtain ⟨b1, b2⟩ := bytesOf_spec hbs
      have hrep := elems_rep h h1 hm
      have fin : ∀ {v : Value}, a.eval x = v → (convert s d v).run P w = .ok (.string ⟨bs.toArray⟩) w → o.wp P a w K Q := by
        intro v hv hr
        refine sim_val0 h (v := .string ⟨bs.toArray⟩) ?_ (RepR.str _).toT he hK
        simp only [execOp, ho, Sem.run_bind, hv, hr, Result.andThen_ok, Sem.run_pure]
      generalize hva : a.eval x = va at hrep
      generalize hll : l = ll at hrep
      cases hrep with
      | sl0 ad cap =>
        subst hll
        have : bs = [] := List.eq_nil_of_length_eq_zero (by rw [b1]; rfl)
        subst this
        refine fin hva ?_
        rw [run_convert_bytes_string w s d el ad 0 cap hs hel hd]
        cases ad with
        | none => rfl
        | some ad =>
          have := run_bytesToString (P := P) w ad 0 cap [] (by simp [loadCells, loadCellsFrom])
          rw [this]
          rfl
      | sl b off cap c _ u hcap hcc hcell hpure hr =>
        subst hll
        refine fin hva ?_
        rw [run_convert_bytes_string w s d el (some ⟨b, off, none⟩) l.length cap hs hel hd]
        let ns : List Int := (List.range l.length).map fun i => match l.getD i [] with | [AV.int _ n] => n | _ => 0
        have hns : ∀ i, i < l.length → ns.getD i 0 = (match l.getD i [] with | [AV.int _ n] => n | _ => 0) := fun i hi => by
          simp [ns, List.getD_eq_getElem?_getD, hi]
        have hnl : ns.length = l.length := by simp [ns]
        have hload : (loadCells ⟨b, off, none⟩ l.length).run P w = .ok (ns.map (Value.int .u8)).toArray w := by
          have hl := run_loadCells_list (P := P) w ⟨b, off, none⟩ (ns.map (Value.int .u8)) (fun j v hj => by
            have hj' : j < l.length := by
              have := (List.getElem?_eq_some_iff.1 hj).1
              simpa [hnl] using this
            obtain ⟨n, q1, q2⟩ := b2 j hj'
            have hc1 : c = 1 := by rw [← hcc j hj', q1]; rfl
            subst hc1
            have h5 := (hcell j 0 hj' (by omega)).2
            have h6 := hr j 0 hj' (by omega)
            rw [q1] at h6
            simp only [List.getD_cons_zero] at h6
            generalize u j 0 = uj at h5 h6
            cases h6
            rw [Addr.add_lit]
            have h7 : off + j = off + j * 1 + 0 := by omega
            rw [h7, h5]
            have h8 : ns[j]? = some (ns.getD j 0) := by simp [List.getD_eq_getElem?_getD, hnl, hj']
            rw [List.getElem?_map, h8, hns j hj', q1] at hj
            simp at hj
            rw [← hj])
          rw [List.length_map, hnl] at hl
          exact hl
        rw [run_bytesToString w ⟨b, off, none⟩ l.length cap ns hload, foldl_push_all]
        congr 2
        have he0 : ByteArray.empty.data = #[] := rfl
        rw [he0]
        congr 1
        apply Array.ext'
        simp only [Array.empty_append]
        apply List.ext_getElem?
        intro i
        by_cases hi : i < l.length
        · obtain ⟨n, q1, q2⟩ := b2 i hi
          have h8 : ns[i]? = some (ns.getD i 0) := by simp [List.getD_eq_getElem?_getD, hnl, hi]
          have h9 : bs[i]? = some (bs.getD i 0) := by simp [List.getD_eq_getElem?_getD, b1, hi]
          rw [List.getElem?_map, h8, h9, hns i hi, q1, q2]
          rfl
        · rw [List.getElem?_eq_none (by simp [hnl]; omega), List.getElem?_eq_none (by omega)]

end
end Go.Bv

set_option linter.unusedVariables false
set_option linter.unusedSimpArgs false
namespace Go.Bv
open Go.RowKit

section
variable {P : Program} {base : Nat} {w0 : World} {ok0 : Nat → Nat → Prop} {e : Env} {a : Act} {w : World} {G : Gh}
variable {R : Nat → List AV → Option AV} {o : Oper} {K : Act → World → Prop} {Q : Exit → Act → World → Prop} {e' : Env}

/-! ### Structs compared -/
theorem sameCells_append : ∀ {ks ks' : List CK} {l m : List AV} {r : Bool}, sameCells (ks ++ ks') l m = some r →
    ∃ r1 r2, sameCells ks (l.take ks.length) (m.take ks.length) = some r1 ∧ sameCells ks' (l.drop ks.length) (m.drop ks.length) = some r2 ∧ r = (r1 && r2)
  | [], ks', l, m, r, h => ⟨true, r, rfl, by simpa using h, by simp⟩
  | .int :: ks, ks', l, m, r, h => by
    cases l with
    | nil => simp [sameCells] at h
    | cons A l =>
      cases m with
      | nil => cases A <;> simp [sameCells] at h
      | cons B m =>
        cases A <;> cases B <;> simp only [List.cons_append, sameCells] at h <;> try (cases h; done)
        rename_i k a k' b
        by_cases hk : k = k'
        case neg => rw [if_neg hk] at h; cases h
        rw [if_pos hk] at h
        cases h1 : sameCells (ks ++ ks') l m with
        | none => simp [h1] at h
        | some r' =>
          simp [h1] at h
          obtain ⟨r1, r2, q1, q2, q3⟩ := sameCells_append h1
          exact ⟨a == b && r1, r2, by simp [sameCells, hk, q1], by simpa using q2, by rw [← h, q3, Bool.and_assoc]⟩
  | .bool :: ks, ks', l, m, r, h => by
    cases l with
    | nil => simp [sameCells] at h
    | cons A l =>
      cases m with
      | nil => cases A <;> simp [sameCells] at h
      | cons B m =>
        cases A <;> cases B <;> simp only [List.cons_append, sameCells] at h <;> try (cases h; done)
        rename_i a b
        cases h1 : sameCells (ks ++ ks') l m with
        | none => simp [h1] at h
        | some r' =>
          simp [h1] at h
          obtain ⟨r1, r2, q1, q2, q3⟩ := sameCells_append h1
          exact ⟨a == b && r1, r2, by simp [sameCells, q1], by simpa using q2, by rw [← h, q3, Bool.and_assoc]⟩
  | .str :: ks, ks', l, m, r, h => by
    cases l with
    | nil => simp [sameCells] at h
    | cons A l =>
      cases m with
      | nil => cases A <;> simp [sameCells] at h
      | cons B m =>
        cases A <;> cases B <;> simp only [List.cons_append, sameCells] at h <;> try (cases h; done)
        rename_i a b
        cases h1 : sameCells (ks ++ ks') l m with
        | none => simp [h1] at h
        | some r' =>
          simp [h1] at h
          obtain ⟨r1, r2, q1, q2, q3⟩ := sameCells_append h1
          exact ⟨a.toList == b.toList && r1, r2, by simp [sameCells, q1], by simpa using q2, by rw [← h, q3, Bool.and_assoc]⟩

theorem sameCells_len : ∀ {ks : List CK} {l m : List AV} {r : Bool}, sameCells ks l m = some r → l.length = ks.length ∧ m.length = ks.length
  | [], l, m, r, h => by cases l <;> cases m <;> simp [sameCells] at h <;> exact ⟨rfl, rfl⟩
  | k :: ks, l, m, r, h => by
    cases l with
    | nil => cases k <;> simp [sameCells] at h
    | cons A l =>
      cases m with
      | nil => cases k <;> cases A <;> simp [sameCells] at h
      | cons B m =>
        have : ∃ r', sameCells ks l m = some r' := by
          cases k <;> cases A <;> cases B <;> simp only [sameCells] at h <;> try (cases h; done)
          · split at h
            · cases h1 : sameCells ks l m with
              | none => simp [h1] at h
              | some r' => exact ⟨r', rfl⟩
            · cases h
          all_goals
            cases h1 : sameCells ks l m with
            | none => simp [h1] at h
            | some r' => exact ⟨r', rfl⟩
        obtain ⟨r', h'⟩ := this
        obtain ⟨q1, q2⟩ := sameCells_len h'
        exact ⟨by simp [q1], by simp [q2]⟩

/-- A value whose cells are told. -/
def CellsOf (w : World) (ok : Nat → Nat → Prop) (agg : Bool) (v : Value) (l : List AV) : Prop :=
  if agg then ∃ xs : Array Value, v = .agg xs ∧ xs.size = l.length ∧ ∀ j, j < l.length → RepR w ok (xs.getD j undef) (l.getD j .unk)
  else ∃ A, l = [A] ∧ RepR w ok v A

def isAggT (P : Program) (t : TypeId) : Bool := match P.underlying t with
  | some (.struct _) => true
  | some (.array _ _) => true
  | _ => false

theorem run_isAgg {t : TypeId} {d : TypeDesc} (hd : P.underlying t = some d) (w : World) : (isAgg t).run P w = .ok (isAggT P t) w := by
  unfold isAggT
  cases d <;> simp [isAgg, run_underlying hd, hd]

theorem plainT_agg {d : Nat} {t : TypeId} {ks : List CK} (h : plainT P d t = some ks) : ∃ D, P.underlying t = some D := by
  cases d with
  | zero => simp [plainT] at h
  | succ d =>
    simp only [plainT] at h
    cases hu : P.underlying t with
    | none => simp [hu] at h
    | some D => exact ⟨D, rfl⟩

theorem run_eqFields_plain {d D : Nat} {ok : Nat → Nat → Prop}
    (ih : ∀ t ks, plainT P d t = some ks → ∀ vx vy l m r, CellsOf w ok (isAggT P t) vx l → CellsOf w ok (isAggT P t) vy m → sameCells ks l m = some r → (Op.equalIn D t vx vy).run P w = .ok r w)
    (hsz : ∀ t ks, plainT P d t = some ks → isAggT P t = true → sizeOf? P t = some ks.length) (h1 : ∀ t ks, plainT P d t = some ks → isAggT P t = false → ks.length = 1)
    (xs ys : Array Value) (L M : List AV) (hxs : xs.size = L.length) (hys : ys.size = M.length) (hx : ∀ j, j < L.length → RepR w ok (xs.getD j undef) (L.getD j .unk)) (hy : ∀ j, j < M.length → RepR w ok (ys.getD j undef) (M.getD j .unk)) :
    ∀ (fs : List Field) (n : Nat) (ks : List CK) (r : Bool), n ≤ L.length → n ≤ M.length → fieldsK (plainT P d) fs n = some ks → sameCells ks (L.drop n) (M.drop n) = some r → (Op.eqFields D xs ys fs).run P w = .ok r w := by
  intro fs
  induction fs with
  | nil =>
    intro n ks r hnL hnM hf hs
    simp [fieldsK] at hf
    subst hf
    have := sameCells_len hs
    simp only [List.length_nil] at this
    rw [List.eq_nil_of_length_eq_zero this.1, List.eq_nil_of_length_eq_zero this.2] at hs
    simp [sameCells] at hs
    subst hs
    simp [Op.eqFields]
  | cons f fs ihf =>
    intro n ks r hnL hnM hf hs
    simp only [fieldsK] at hf
    by_cases hn : f.name ≠ "_" ∧ f.offset = n
    case neg => rw [if_neg hn] at hf; cases hf
    rw [if_pos hn] at hf
    obtain ⟨hname, hoff⟩ := hn
    cases hp : plainT P d f.type with
    | none => simp [hp] at hf
    | some k1 =>
      simp only [hp] at hf
      cases hf2 : fieldsK (plainT P d) fs (n + k1.length) with
      | none => simp [hf2] at hf
      | some k2 =>
        simp only [hf2, Option.some.injEq] at hf
        subst hf
        have hlen := sameCells_len hs
        simp only [List.length_drop, List.length_append] at hlen
        obtain ⟨r1, r2, s1, s2, rfl⟩ := sameCells_append hs
        rw [List.drop_drop, List.drop_drop] at s2
        have hrest := ihf (n + k1.length) k2 r2 (by omega) (by omega) hf2 s2
        have part : ∀ (zs : Array Value) (N : List AV), zs.size = N.length → (∀ j, j < N.length → RepR w ok (zs.getD j undef) (N.getD j .unk)) → n + k1.length ≤ N.length → ∃ v, (part f.type zs f.offset).run P w = .ok v w ∧ CellsOf w ok (isAggT P f.type) v ((N.drop n).take k1.length) := by
          intro zs N hzs hz hle
          obtain ⟨DD, hDD⟩ := plainT_agg hp
          have hagg := run_isAgg hDD w
          cases hag : isAggT P f.type with
          | true =>
            have hsize := hsz _ _ hp hag
            rw [hag] at hagg
            refine ⟨.agg (zs.extract n (n + k1.length)), ?_, ?_⟩
            · simp [Go.part, hagg, run_sizeOf hsize, hoff]
            · simp only [CellsOf, if_true]
              refine ⟨_, rfl, by simp; omega, fun j hj => ?_⟩
              have hj' : j < k1.length := by simp at hj; omega
              have hz' := hz (n + j) (by omega)
              rw [drop_take_getD N n k1.length j hj' hle]
              have e1 : (zs.extract n (n + k1.length)).getD j undef = zs.getD (n + j) undef := by
                simp [Array.getElem?_extract, show j < min (n + k1.length) zs.size - n by omega, show n + j < zs.size by omega]
              rw [e1]; exact hz'
          | false =>
            have hk := h1 _ _ hp hag
            rw [hag] at hagg
            have hlt : n < zs.size := by omega
            refine ⟨zs.getD n undef, ?_, ?_⟩
            · simp [Go.part, hagg, hoff, hlt]
            · simp only [CellsOf, Bool.false_eq_true, if_false]
              refine ⟨N.getD n .unk, ?_, hz n (by omega)⟩
              rw [hk]
              have hlt' : n < N.length := by omega
              have h9 : (N.drop n).take 1 = [N[n]] := by rw [List.drop_eq_getElem_cons hlt']; rfl
              rw [h9]
              simp [List.getD_eq_getElem?_getD, hlt']
        obtain ⟨vx, p1, p2⟩ := part xs L hxs hx (by omega)
        obtain ⟨vy, p3, p4⟩ := part ys M hys hy (by omega)
        have heq := ih _ _ hp vx vy _ _ r1 p2 p4 s1
        simp only [Op.eqFields, hname, ne_eq, not_false_eq_true, if_true, Sem.run_bind, p1, p3, heq, Result.andThen_ok]
        cases r1
        · simp
        · simp [hrest]

theorem run_equalIn_plain {ok : Nat → Nat → Prop} : ∀ (d : Nat) (t : TypeId) (ks : List CK), plainT P d t = some ks → ∀ D, d ≤ D → ∀ vx vy l m r, CellsOf w ok (isAggT P t) vx l → CellsOf w ok (isAggT P t) vy m → sameCells ks l m = some r →
    (Op.equalIn D t vx vy).run P w = .ok r w := by
  intro d
  induction d with
  | zero => intro t ks h; simp [plainT] at h
  | succ d ih =>
    intro t ks h D hD vx vy l m r hx hy hs
    obtain ⟨D, rfl⟩ : ∃ D', D = D' + 1 := ⟨D - 1, by omega⟩
    simp only [plainT] at h
    cases hu : P.underlying t with
    | none => simp [hu] at h
    | some T =>
      cases T <;> simp only [hu] at h <;> try (cases h; done)
      case int k0 =>
        cases h
        simp only [isAggT, hu, CellsOf, Bool.false_eq_true, if_false] at hx hy
        obtain ⟨A, rfl, hA⟩ := hx
        obtain ⟨B, rfl, hB⟩ := hy
        cases A <;> cases B <;> simp only [sameCells] at hs <;> try (cases hs; done)
        rename_i k a k' b
        by_cases hk : k = k'
        case neg => rw [if_neg hk] at hs; cases hs
        rw [if_pos hk] at hs
        subst hk
        simp at hs
        subst hs
        cases hA; cases hB
        exact run_equalIn_int w D t k k0 a b hu
      case bool =>
        cases h
        simp only [isAggT, hu, CellsOf, Bool.false_eq_true, if_false] at hx hy
        obtain ⟨A, rfl, hA⟩ := hx
        obtain ⟨B, rfl, hB⟩ := hy
        cases A <;> cases B <;> simp only [sameCells] at hs <;> try (cases hs; done)
        rename_i a b
        simp at hs
        subst hs
        cases hA; cases hB
        exact run_equalIn_bool' w D t a b hu
      case string =>
        cases h
        simp only [isAggT, hu, CellsOf, Bool.false_eq_true, if_false] at hx hy
        obtain ⟨A, rfl, hA⟩ := hx
        obtain ⟨B, rfl, hB⟩ := hy
        cases A <;> cases B <;> simp only [sameCells] at hs <;> try (cases hs; done)
        rename_i a b
        simp at hs
        subst hs
        cases hA; cases hB
        exact run_equalIn_string w D t a b hu
      case struct fs =>
        by_cases hst : P.stoodInHeld t = false
        case neg => rw [if_neg hst] at h; cases h
        rw [if_pos hst] at h
        cases hf : fieldsK (plainT P d) fs.toList 0 with
        | none => simp [hf] at h
        | some ks' =>
          simp only [hf] at h
          by_cases hsz : sizeOf? P t = some ks'.length
          case neg => rw [if_neg hsz] at h; cases h
          rw [if_pos hsz] at h
          cases h
          simp only [isAggT, hu, CellsOf, if_true] at hx hy
          obtain ⟨xs, rfl, hxs, hx⟩ := hx
          obtain ⟨ys, rfl, hys, hy⟩ := hy
          have hfo : P.fieldsOf t = fs := by simp [Program.fieldsOf, hu]
          rw [run_equalIn_struct w D t xs ys (by rw [hfo]; exact hu) hst, hfo]
          refine run_eqFields_plain (d := d) (D := D) (ok := ok) (fun t' ks' h' vx vy l m r a1 a2 a3 => ih t' ks' h' D (by omega) vx vy l m r a1 a2 a3) (fun t' ks' h' hag => ?_) (fun t' ks' h' hag => ?_) xs ys l m hxs hys hx hy fs.toList 0 ks r (Nat.zero_le _) (Nat.zero_le _) hf (by simpa using hs)
          · cases d with
            | zero => simp [plainT] at h'
            | succ d =>
              simp only [plainT] at h'
              cases hu' : P.underlying t' with
              | none => simp [hu'] at h'
              | some T' =>
                cases T' <;> simp only [hu'] at h' <;> first
                  | (simp [isAggT, hu'] at hag; done)
                  | (cases h'; done)
                  | skip
                by_cases q : P.stoodInHeld t' = false
                case neg => rw [if_neg q] at h'; cases h'
                rw [if_pos q] at h'
                split at h'
                · rename_i ks2 hks2
                  by_cases q2 : sizeOf? P t' = some ks2.length
                  · rw [if_pos q2] at h'; cases h'; exact q2
                  · rw [if_neg q2] at h'; cases h'
                · cases h'
          · cases d with
            | zero => simp [plainT] at h'
            | succ d =>
              simp only [plainT] at h'
              cases hu' : P.underlying t' with
              | none => simp [hu'] at h'
              | some T' =>
                cases T' <;> simp only [hu'] at h' <;> first
                  | (cases h'; rfl)
                  | (simp [isAggT, hu'] at hag; done)
                  | (cases h'; done)

theorem sim_eqs (h : Rel base w0 ok0 e a w G) {ne : Bool} {op : BinOp} {T U : TypeId} {fs : Array Field} {ks : List CK} {x y : Operand} {x' y' : X} (hx : compX x = some x') (hy : compX y = some y') (ho : o.op = .binOp op T x y U)
    (hop : op = if ne then .neq else .eql) (hT : P.underlying T = some (.struct fs)) (hg : P.eqGuardType P.depth T = false) (hp : plainT P 20 T = some ks)
    (he : evalO R e o.dst (.eqs ne ks x' y') = some e') (hK : ∀ a' w' G', Rel base w0 ok0 e' a' w' G' → K a' w') : o.wp P a w K Q := by
  simp only [evalO, act] at he
  have h1 := compX_rep hx h
  have h2 := compX_rep hy h
  cases hgx : e.get x' <;> simp only [hgx] at he h1 <;> try (cases he; done)
  cases hgy : e.get y' <;> simp only [hgy] at he h2 <;> try (cases he; done)
  rename_i l m
  cases hs : sameCells ks l m with
  | none => simp [hs] at he
  | some r =>
    simp only [hs] at he
    obtain ⟨xs, e1, a1, _, b1⟩ := inv_agg h1
    obtain ⟨ys, e2, a2, _, b2⟩ := inv_agg h2
    have hagg : isAggT P T = true := by simp [isAggT, hT]
    have hr := run_equalIn_plain (P := P) (w := w) (ok := G.ok) 20 T ks hp 10000 (by omega) (.agg xs) (.agg ys) l m r (by rw [hagg]; exact ⟨xs, rfl, a1, b1⟩) (by rw [hagg]; exact ⟨ys, rfl, a2, b2⟩) hs
    refine sim_val0 h (v := .bool (if ne then !r else r)) ?_ (RepR.bool _).toT he hK
    subst hop
    cases ne
    · simp only [execOp, ho, Sem.run_bind, e1, e2, Bool.false_eq_true, if_false, run_eqGuard_agg w _ T x y xs ys hg, Result.andThen_ok, run_eql_struct, hr, Sem.run_pure]
    · simp only [execOp, ho, Sem.run_bind, e1, e2, if_true, run_eqGuard_agg w _ T x y xs ys hg, Result.andThen_ok, run_neq_struct, hr, Sem.run_pure]

end
end Go.Bv
