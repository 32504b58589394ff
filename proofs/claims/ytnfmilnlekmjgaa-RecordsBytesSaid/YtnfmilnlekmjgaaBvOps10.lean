import Derived.Test.YtnfmilnlekmjgaaBvOps9
set_option linter.unusedVariables false
set_option linter.unusedSimpArgs false
namespace Go.Bv
open Go.RowKit

section
variable {P : Program} {base : Nat} {w0 : World} {ok0 : Nat → Nat → Prop} {e : Env} {a : Act} {w : World} {G : Gh}
variable {R : Nat → List AV → Option AV} {o : Oper} {K : Act → World → Prop} {Q : Exit → Act → World → Prop} {e' : Env}

theorem cellOk_rep (h : Rel base w0 ok0 e a w G) {v : Value} {A : AV} (hv : RepT w G e v A) (hA : e.cellOk A = true) : v.oneCell' = true ∧ v.cells = #[v] ∧ A.cell1 = true := by
  by_cases ho : ∃ d g, A = .own d g
  · obtain ⟨d, g, rfl⟩ := ho
    simp only [Env.cellOk] at hA
    cases hk : e.ok? d g with
    | none => simp [hk] at hA
    | some k =>
      cases k <;> simp [hk] at hA
      have hs := row_seen h (ok?_kind hk) (ks := [d]) (List.mem_singleton.2 rfl)
      rw [hv.2.2 _ _ _ _ hk]
      exact ⟨hs.oneCell rfl, RepR.cells_one hs rfl, rfl⟩
  · have hp : A.pure = true := by cases A <;> first | exact hA | exact absurd ⟨_, _, rfl⟩ ho
    have hr : RepR w G.ok v A := by cases A <;> first | exact hv | (simp [AV.pure] at hp)
    exact ⟨hr.oneCell hp, RepR.cells_one hr hp, AV.pure_cell1 hp⟩

/-- What is stored, cell by cell. -/
theorem parts_rep (h : Rel base w0 ok0 e a w G) {v : Value} {A : AV} (hv : RepT w G e v A) (hA : (partsA A).all e.cellOk = true) :
    v.cells.size = (partsA A).length ∧ ∀ j, j < (partsA A).length → RepT w G e (v.cells.getD j undef) ((partsA A).getD j .unk) ∧ (v.cells.getD j undef).oneCell' = true ∧ ((partsA A).getD j .unk).cell1 = true := by
  by_cases hagg : ∃ m, A = .agg m
  · obtain ⟨m, rfl⟩ := hagg
    obtain ⟨vs, rfl, hs, hp, hr⟩ := inv_agg hv
    exact ⟨hs, fun j hj => ⟨(hr j hj).toT, (hr j hj).oneCell (hp j hj), AV.pure_cell1 (hp j hj)⟩⟩
  · have hpa : partsA A = [A] := by cases A <;> first | rfl | exact absurd ⟨_, rfl⟩ hagg
    rw [hpa] at hA ⊢
    have hA' : e.cellOk A = true := by simpa using hA
    obtain ⟨q1, q2, q3⟩ := cellOk_rep h hv hA'
    rw [q2]
    refine ⟨rfl, fun j hj => ?_⟩
    have : j = 0 := by simp at hj; omega
    subst this
    exact ⟨hv, q1, q3⟩

theorem run_storeVar {t : TypeId} {n b off : Nat} {v : Value} {T : TypeId} {cur : Array Value} (hn : sizeOf? P t = some n) (hv : v.cells.size = n) (hb : w.heap[b]? = some (.cells cur T (0, 0))) (hfit : off + n ≤ cur.size) (h1 : ∀ j, j < n → (v.cells.getD j undef).oneCell' = true) :
    (storeVar t ⟨b, off, none⟩ v).run P w = .ok () (w.setRow b (cur.toList.take off ++ v.cells.toList ++ cur.toList.drop (off + n)).toArray) := by
  have hst := run_storeCells_at P b off T v.cells.toList 0 cur w hb (by simpa [hv] using hfit) (fun u hu => by
    obtain ⟨k, hk⟩ := List.mem_iff_getElem?.1 hu
    have hlt : k < v.cells.size := by simpa using (List.getElem?_eq_some_iff.1 hk).1
    have := h1 k (by omega)
    have e1 : v.cells.getD k undef = u := by
      rw [Array.getElem?_toList] at hk
      rw [Array.getD_eq_getD_getElem?, hk]; rfl
    rwa [e1] at this)
  simp only [Nat.add_zero, Array.length_toList, hv] at hst
  simp [storeVar, run_sizeOf hn, hv, hst]

theorem vsplice_getD (cur : Array Value) (off n : Nat) (vs : Array Value) (hv : vs.size = n) (h : off + n ≤ cur.size) (k : Nat) :
    ((cur.toList.take off ++ vs.toList ++ cur.toList.drop (off + n)).toArray).getD k undef = if k < off then cur.getD k undef else if k < off + n then vs.getD (k - off) undef else cur.getD k undef := by
  simp only [Array.getD_eq_getD_getElem?, List.getElem?_toArray, List.append_assoc]
  by_cases h1 : k < off
  · rw [if_pos h1, List.getElem?_append_left (by simp; omega), List.getElem?_take, if_pos h1, Array.getElem?_toList]
  · rw [if_neg h1, List.getElem?_append_right (by simp; omega)]
    have e1 : (cur.toList.take off).length = off := by simp; omega
    rw [e1]
    by_cases h2 : k < off + n
    · rw [if_pos h2, List.getElem?_append_left (by simp; omega), Array.getElem?_toList]
    · rw [if_neg h2, List.getElem?_append_right (by simp; omega), List.getElem?_drop, Array.getElem?_toList]
      congr 2; simp; omega
theorem vsplice_size (cur : Array Value) (off n : Nat) (vs : Array Value) (hv : vs.size = n) (h : off + n ≤ cur.size) :
    ((cur.toList.take off ++ vs.toList ++ cur.toList.drop (off + n)).toArray).size = cur.size := by
  simp; omega

theorem below_setRow {b : Nat} (cs : Array Value) (hb : base ≤ b) : Below base w (w.setRow b cs) :=
  ⟨rfl, rfl, rfl, by simp, fun k hk => setRow_other w b k cs (by omega)⟩

theorem sim_st (h : Rel base w0 ok0 e a w G) {t : TypeId} {p x : Operand} {p' x' : X} {n : Nat} (hp : compX p = some p') (hx : compX x = some x') (hn : sizeOf? P t = some n) (ho : o.op = .store t p x) (hdst : o.dst = none)
    (he : evalO R e o.dst (.st n p' x') = some e') (hK : ∀ a' w' G', Rel base w0 ok0 e' a' w' G' → K a' w') : o.wp P a w K Q := by
  simp only [evalO, storeA] at he
  have h1 := compX_rep hp h
  have h2 := compX_rep hx h
  have hrun : ∀ {b off : Nat} {w' : World}, a.eval p = .pointer (some ⟨b, off, none⟩) → (storeVar t ⟨b, off, none⟩ (a.eval x)).run P w = .ok () w' → (execOp a.eval o).run P w = .ok .skip w' := by
    intro b off w' hv hr
    simp only [execOp, ho, hv, Instr.storeAt, Instr.sureAddr, Sem.run_bind, Sem.run_pure, Result.andThen_ok, hr]
  have hput : a.put o.dst undef = a := by rw [hdst]; rfl
  cases hgp : e.get p' <;> simp only [hgp] at he h1 <;> try (cases he; done)
  case ptr d g off =>
    cases hk : e.ok? d g with
    | none => simp [hk] at he
    | some k =>
      cases k <;> simp only [hk] at he <;> try (cases he; done)
      rename_i l
      by_cases hb : (partsA (e.get x')).length = n ∧ off + n ≤ l.length ∧ (partsA (e.get x')).all e.cellOk = true
      case neg => rw [if_neg hb] at he; cases he
      rw [if_pos hb] at he
      cases he
      obtain ⟨b1, b2, b3⟩ := hb
      obtain ⟨b, vs, T, q1, q2, q3, q4, q5, q6, q7⟩ := box_cells h hk
      obtain ⟨bb, q1', hv⟩ := h1.2.2 l hk
      have : b = bb := by rw [q1] at q1'; simpa using q1'
      subst this
      obtain ⟨hd, hgen, hkind⟩ := Env.ok?_eq hk
      obtain ⟨c1, c2⟩ := parts_rep h h2 b3
      have hr := run_storeVar (P := P) (w := w) hn (by rw [c1, b1]) q3 (by rw [q4]; exact b2) (fun j hj => (c2 j (by omega)).2.1)
      refine wp_skip' (hrun hv hr) ?_
      rw [hput]
      have hfit : off + n ≤ vs.size := by rw [q4]; exact b2
      have hcs : (a.eval x).cells.size = n := by rw [c1, b1]
      refine hK _ _ (G.at_ d (G.sv d)) ?_
      rw [← hgen]
      have hWk := Weaker.sameBox (l' := splice l off (partsA (e.get x'))) hd hkind
      have hok : ∀ b' o', G.ok b' o' → (w.setRow b (vs.toList.take off ++ (a.eval x).cells.toList ++ vs.toList.drop (off + n)).toArray).cell? ⟨b', o', none⟩ = w.cell? ⟨b', o', none⟩ := by
        intro b' o' hb'
        have hne : b' ≠ b := fun hh => q6 o' (by rw [← hh]; exact hb')
        exact World.cell?_of_block (setRow_other w b b' _ hne)
      have hT : ∀ v A, RepT w G e v A → RepT (w.setRow b (vs.toList.take off ++ (a.eval x).cells.toList ++ vs.toList.drop (off + n)).toArray) (G.at_ d (G.sv d)) (e.setObj d (e.gen d) (.box (splice l off (partsA (e.get x'))))) v A := fun v A hh =>
        RepT.mono (G := G) (G' := G.at_ d (G.sv d)) hWk (fun _ _ hh => hh) hok (fun d' _ _ _ _ _ => by simp only [Gh.at_]; split <;> simp_all) hh
      refine h.change hd hWk (below_setRow _ q2) (fun d' hdd hl' b' hb' => ?_) hok (fun _ _ => rfl) (fun _ => by rw [hkind]; rfl) (Nat.le_refl _) ?_ (fun _ b' hb' d' hdd hd' hl' hc => ?_)
      · have hne : b' ≠ b := fun hh => by
          subst hh
          exact hdd (h.inj d' d (kind_lt hl') hd hl' (by rw [hkind]; rfl) b' hb' (by rw [q1]; rfl))
        exact setRow_other w b b' _ hne
      · refine ⟨b, _, T, by simp [Gh.at_, q1], q2, setRow_heap w b vs _ T _ q3, ?_, fun j hj => ?_, q6⟩
        · rw [vsplice_size vs off n _ hcs hfit, splice_len l off _ (by rw [b1]; exact b2)]; exact q4
        · rw [splice_len l off _ (by rw [b1]; exact b2)] at hj
          rw [vsplice_getD vs off n _ hcs hfit j, splice_getD l off _ (by rw [b1]; exact b2) j, b1]
          by_cases r1 : j < off
          · rw [if_pos r1, if_pos r1]; exact ⟨hT _ _ (q5 j hj).1, (q5 j hj).2⟩
          · rw [if_neg r1, if_neg r1]
            by_cases r2 : j < off + n
            · rw [if_pos r2, if_pos r2]
              have := c2 (j - off) (by omega)
              exact ⟨hT _ _ this.1, this.2.2⟩
            · rw [if_neg r2, if_neg r2]; exact ⟨hT _ _ (q5 j hj).1, (q5 j hj).2⟩
      · exact hdd (h.inj d' d hd' hd hl' (by rw [hkind]; rfl) b' hc hb')
  case rp d g i j0 =>
    cases hm : e.cells (e.get x') with
    | none => simp [hm] at he
    | some r =>
      obtain ⟨m, ks⟩ := r
      simp only [hm] at he
      cases hk : (e.freeze ks).ok? d g with
      | none => simp [hk] at he
      | some k =>
        cases k <;> simp only [hk] at he <;> try (cases he; done)
        rename_i E c f l
        by_cases hb : m.length = n ∧ f ≤ i ∧ i < l.length ∧ j0 + n ≤ (l.getD i []).length
        case neg => rw [if_neg hb] at he; cases he
        rw [if_pos hb] at he
        cases he
        obtain ⟨b1, b2, b3, b4⟩ := hb
        have hfz := h.freeze ks
        obtain ⟨hd, hgen, hkind⟩ := Env.ok?_eq hk
        obtain ⟨q1, q2, xs, q3, q4, q5, q6⟩ := row_cells hfz hk
        have h1' : RepT w (G.frz e ks) (e.freeze ks) (a.eval p) (.rp d g i j0) := RepT.frz ks h1
        obtain ⟨b, nn, cap, hsv, hv⟩ := h1'.2.2 _ _ _ _ hk
        obtain ⟨c1, c2⟩ := cells_rep h h2 hm
        have hic : (l.getD i []).length = c := q2 i b3
        rcases q3.2 with ⟨hnil, hz⟩ | ⟨gb, cap', cur, s1, s2, s3, s4, s5, s6, s7⟩
        · rw [hsv] at hnil; simp at hnil
        have hbb : gb = b := by rw [hsv] at s1; simp at s1; exact s1.1.symm
        subst hbb
        have hbig : i * c + j0 + n ≤ l.length * c := by
          have : (i + 1) * c ≤ l.length * c := Nat.mul_le_mul_right _ b3
          rw [Nat.add_mul] at this; omega
        have hcap : l.length * c ≤ cap' * c := Nat.mul_le_mul_right _ s4
        have hfit : i * c + j0 + n ≤ cur.size := by rw [s6]; omega
        have hcs : (a.eval x).cells.size = n := by rw [c1, b1]
        have hr := run_storeVar (P := P) (w := w) hn hcs s3 hfit (fun j hj => ((c2 j (by omega)).1).oneCell (c2 j (by omega)).2)
        refine wp_skip' (hrun hv hr) ?_
        rw [hput]
        refine hK _ _ ((G.frz e ks).at_ d ((G.frz e ks).sv d)) ?_
        rw [← hgen]
        have hbk : blkOf ((G.frz e ks).sv d) = some gb := by rw [hsv]; rfl
        have hWk := Weaker.sameRow (f' := f) (l' := l.set i (splice (l.getD i []) j0 m)) hd hkind
        let cur' : Array Value := (cur.toList.take (i * c + j0) ++ (a.eval x).cells.toList ++ cur.toList.drop (i * c + j0 + n)).toArray
        have hcur' : ∀ k, cur'.getD k undef = if k < i * c + j0 then cur.getD k undef else if k < i * c + j0 + n then (a.eval x).cells.getD (k - (i * c + j0)) undef else cur.getD k undef := vsplice_getD cur (i * c + j0) n _ hcs hfit
        have hcsz : cur'.size = cur.size := vsplice_size cur (i * c + j0) n _ hcs hfit
        have hok : ∀ b' o', (G.frz e ks).ok b' o' → (w.setRow gb cur').cell? ⟨b', o', none⟩ = w.cell? ⟨b', o', none⟩ := by
          intro b' o' hb'
          by_cases hne : b' = gb
          · subst hne
            have hlt := q5 b' hbk o' hb'
            have hfi : f * c ≤ i * c := Nat.mul_le_mul_right _ b2
            rw [cell_of_row _ b' o' cur' E _ (setRow_heap w b' cur cur' E _ s3), cell_of_row w b' o' cur E (0, 0) s3]
            have := hcur' o'
            rw [if_pos (by omega)] at this
            rw [Array.getElem?_eq_getElem (show o' < cur'.size by omega), Array.getElem?_eq_getElem (show o' < cur.size by omega)]
            rw [Array.getD_eq_getD_getElem?, Array.getD_eq_getD_getElem?, Array.getElem?_eq_getElem (show o' < cur'.size by omega), Array.getElem?_eq_getElem (show o' < cur.size by omega)] at this
            simpa using this
          · exact World.cell?_of_block (setRow_other w gb b' _ hne)
        refine hfz.change hd hWk (below_setRow _ s2) (fun d' hdd hl' b' hb' => ?_) hok (fun _ _ => rfl) (fun _ => by rw [hkind]; rfl) (Nat.le_refl _) ?_ (fun _ b' hb' d' hdd hd' hl' hc => ?_)
        · have hne : b' ≠ gb := fun hh => by
            subst hh
            exact hdd (hfz.inj d' d (kind_lt hl') hd hl' (by rw [hkind]; rfl) b' hb' hbk)
          exact setRow_other w gb b' _ hne
        · have hxs : ∀ k, k < l.length * c → xs.getD k undef = cur.getD k undef := fun k hk' => by
            rw [← s7, List.getD_eq_getElem?_getD, List.getElem?_take, if_pos hk', Array.getElem?_toList, Array.getD_eq_getD_getElem?]
          have hset : ∀ q, q < l.length → (l.set i (splice (l.getD i []) j0 m)).getD q [] = if q = i then splice (l.getD i []) j0 m else l.getD q [] := fun q hq => by
            by_cases hqi : q = i
            · subst hqi; rw [if_pos rfl, getD_set_eq _ _ _ _ b3]
            · rw [if_neg hqi, getD_set_ne' _ _ _ _ _ (Ne.symm hqi)]
          have hspl : (splice (l.getD i []) j0 m).length = c := by rw [splice_len _ _ _ (by rw [b1]; exact b4)]; exact hic
          refine ⟨by simpa using q1, fun q hq => ?_, (cur'.toList.take (l.length * c)), ⟨?_, .inr ⟨gb, cap', cur', by simpa [Gh.at_] using s1, s2, setRow_heap w gb cur cur' E _ s3, by simpa using s4, s5, by rw [hcsz]; exact s6, by simp⟩⟩, fun q j hq hj => ?_, fun b' hb' o' ho' => ?_⟩
          · simp only [List.length_set] at hq
            rw [hset q hq]
            by_cases hqi : q = i
            · rw [if_pos hqi]; exact hspl
            · rw [if_neg hqi]; exact q2 q hq
          · simp [hcsz]; omega
          · simp only [List.length_set] at hq
            have hlt : q * c + j < l.length * c := by
              have : (q + 1) * c ≤ l.length * c := Nat.mul_le_mul_right _ hq
              rw [Nat.add_mul] at this; omega
            have e1 : (cur'.toList.take (l.length * c)).getD (q * c + j) undef = cur'.getD (q * c + j) undef := by
              rw [List.getD_eq_getElem?_getD, List.getElem?_take, if_pos hlt, Array.getElem?_toList, Array.getD_eq_getD_getElem?]
            rw [e1, hcur', hset q hq]
            have keep : RepR (w.setRow gb cur') ((G.frz e ks).at_ d ((G.frz e ks).sv d)).ok (cur.getD (q * c + j) undef) ((l.getD q []).getD j .unk) ∧ ((l.getD q []).getD j .unk).pure = true := by
              rw [← hxs _ hlt]
              exact ⟨RepR.mono (fun _ _ hh => hh) hok (q4 q j hq hj).1, (q4 q j hq hj).2⟩
            by_cases hqi : q = i
            · subst hqi
              rw [if_pos rfl, splice_getD _ _ _ (by rw [b1]; exact b4), b1]
              by_cases r1 : j < j0
              · rw [if_pos (by omega), if_pos r1]; exact keep
              · rw [if_neg (by omega), if_neg r1]
                by_cases r2 : j < j0 + n
                · rw [if_pos (by omega), if_pos r2]
                  have e2 : q * c + j - (q * c + j0) = j - j0 := by omega
                  rw [e2]
                  have := c2 (j - j0) (by omega)
                  exact ⟨RepR.mono (fun _ _ hh => hh) hok this.1, this.2⟩
                · rw [if_neg (by omega), if_neg r2]; exact keep
            · rw [if_neg hqi]
              by_cases r1 : q * c + j < i * c + j0
              · rw [if_pos r1]; exact keep
              · rw [if_neg r1]
                have hqgt : ¬ (q * c + j < i * c + j0 + n) := by
                  intro hh
                  rcases Nat.lt_or_ge q i with hlt' | hge
                  · have : (q + 1) * c ≤ i * c := Nat.mul_le_mul_right _ hlt'
                    rw [Nat.add_mul] at this; omega
                  · have : (i + 1) * c ≤ q * c := Nat.mul_le_mul_right _ (by omega)
                    rw [Nat.add_mul] at this; omega
                rw [if_neg hqgt]; exact keep
          · exact q5 b' (by simpa [Gh.at_] using hb') o' ho'
        · exact hdd (hfz.inj d' d hd' hd hl' (by rw [hkind]; rfl) b' hc hb')

end
end Go.Bv
