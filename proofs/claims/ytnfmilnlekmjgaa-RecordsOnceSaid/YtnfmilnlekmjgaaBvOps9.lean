import Derived.Test.YtnfmilnlekmjgaaBvOps7
set_option linter.unusedVariables false
set_option linter.unusedSimpArgs false
namespace Go.Bv
open Go.RowKit

section
variable {P : Program} {base : Nat} {w0 : World} {ok0 : Nat → Nat → Prop} {e : Env} {a : Act} {w : World} {G : Gh}
variable {R : Nat → List AV → Option AV} {o : Oper} {K : Act → World → Prop} {Q : Exit → Act → World → Prop} {e' : Env}

theorem append_law {t ty el : TypeId} {i : TypeInfo} {z : Value} (ht : P.underlying t = some (.slice el)) (hi : P.info? el = some i) (hz : i.zero = some z) (hzs : z.cells.size = i.size) (hsz : 0 < i.size)
    {v : Value} {n : Nat} {xs : List Value} (hown : w.ownsRow base el i.size v n xs) {ad : Addr} {m c : Nat} {news : List Value} (hl : news.length = m * i.size) (hnews : ∀ j u, news[j]? = some u → w.cell? (ad.add j) = some u) (h1 : ∀ u ∈ news, u.oneCell' = true)
    (hm : 0 < m) (h63 : n + m ≤ maxLen) (hbytes : (n + m) * i.bytes ≤ 140737488355328) (hbase : base ≤ w.heap.size) :
    ∃ v' w', (Builtin.append_ #[t, t] ty #[v, .slice (some ad) m c]).run P w = .ok v' w' ∧ w'.ownsRow base el i.size v' (n + m) (xs ++ news) ∧ w.grownBy w' v.ownBlock ∧
      (∀ b, v.ownBlock = some b → ∀ o, o < n * i.size → w'.cell? ⟨b, o, none⟩ = w.cell? ⟨b, o, none⟩) ∧ (v'.ownBlock = v.ownBlock ∨ v'.ownBlock = some w.heap.size) := by
  have hsmall : n + m ≤ 9223372036854775807 := by simp only [maxLen] at h63; omega
  have hlen : (xs ++ news).length = (n + m) * i.size := by rw [List.length_append, hown.1, hl, Nat.add_mul]
  have grown : ∀ (old : Nat), old < n + m → ∀ (row : Option Nat),
      (w.drew.alloc (.cells (xs.toArray ++ news.toArray ++ Builtin.zeroCells z.cells (grownCap w (n + m) old el - (n + m))) el)).ownsRow base el i.size
        (.slice (some ⟨w.heap.size, 0, none⟩) (n + m) (grownCap w (n + m) old el)) (n + m) (xs ++ news) ∧
      w.grownBy (w.drew.alloc (.cells (xs.toArray ++ news.toArray ++ Builtin.zeroCells z.cells (grownCap w (n + m) old el - (n + m))) el)) row := by
    intro old ho row
    have hge := grownCap_ge w (n + m) old el
    have hcm : grownCap w (n + m) old el ≤ maxLen := grownCap_le_maxLen w (n + m) old el h63
    refine ⟨⟨hlen, .inr ⟨w.heap.size, _, _, rfl, hbase, heap_alloc_new w.drew _, hge, hcm, ?_, ?_⟩⟩, ⟨rfl, rfl, rfl, by simp, fun k hk _ => heap_alloc_old w.drew _ k hk⟩⟩
    · simp only [Array.size_append, List.size_toArray, size_zeroCells, hzs, hown.1, hl, ← Nat.add_mul]
      congr 1
      omega
    · simp only [Array.toList_append, List.append_assoc]
      rw [← List.append_assoc, ← hlen]
      exact List.take_left
  rcases hown.2 with ⟨rfl, rfl⟩ | ⟨g, cap, cur, rfl, hbg, hg, hnc, hcm, hcs, htake⟩
  · have hx : xs = [] := List.eq_nil_of_length_eq_zero (by simpa using hown.1)
    subst hx
    have hr := run_append_nil (P := P) w t ty el i z ht hi hz ad m c news hl hnews (by omega) (by omega) (by have hb := hbytes; simp only [Nat.zero_add] at hb; omega)
    have hgr := grown 0 (by omega) (Value.ownBlock (.slice none 0 0))
    simp only [Nat.zero_add, List.nil_append, Array.empty_append] at hgr ⊢
    exact ⟨_, _, hr, hgr.1, hgr.2, fun b hb => by simp [Value.ownBlock] at hb, .inr rfl⟩
  · by_cases hroom : n + m ≤ cap
    · have hfit : n * i.size + news.length ≤ cur.size := by rw [hl, hcs, ← Nat.add_mul]; exact Nat.mul_le_mul_right _ hroom
      have hr := run_append_room (P := P) w t ty el i ht hi g n cap cur hg ad m c news hl hnews h1 hroom hfit
      refine ⟨_, _, hr, ⟨hlen, .inr ⟨g, cap, _, rfl, hbg, setRow_heap w g cur _ el _ hg, hroom, hcm, ?_, ?_⟩⟩, ⟨rfl, rfl, rfl, by simp, fun k _ hk => setRow_other w g k _ (fun e => hk (by simp [Value.ownBlock, e]))⟩, fun b hb o ho => ?_, .inl rfl⟩
      · simp only [List.size_toArray, List.length_append, List.length_take, List.length_drop, Array.length_toList]
        omega
      · rw [htake, ← hlen]
        exact List.take_left
      · have : g = b := by simpa [Value.ownBlock] using hb
        subst this
        rw [cell_of_row _ g o _ el _ (setRow_heap w g cur _ el _ hg), cell_of_row w g o cur el (0, 0) hg]
        simp only [List.append_assoc, List.getElem?_toArray]
        rw [List.getElem?_append_left (by simp; omega), List.getElem?_take, if_pos ho, Array.getElem?_toList]
    · have holds : ∀ j u, xs[j]? = some u → w.cell? ((⟨g, 0, none⟩ : Addr).add j) = some u := hown.cells (g := g) rfl
      have hr := run_append_grow (P := P) w t ty el i z ht hi hz ⟨g, 0, none⟩ n cap xs hown.1 holds ad m c news hl hnews (by omega) (by omega) (growslice_fits (by omega) hbytes)
      have hgr := grown cap (by omega) (Value.ownBlock (.slice (some ⟨g, 0, none⟩) n cap))
      refine ⟨_, _, hr, hgr.1, hgr.2, fun b hb o ho => ?_, .inr rfl⟩
      have hbl : g < w.heap.size := (Array.getElem?_eq_some_iff.1 hg).1
      have : g = b := by simpa [Value.ownBlock] using hb
      subst this
      exact World.cell?_of_block (heap_alloc_old w.drew _ g hbl)

theorem append_zero {t ty el : TypeId} {i : TypeInfo} (ht : P.underlying t = some (.slice el)) (hi : P.info? el = some i)
    {v : Value} {n : Nat} {xs : List Value} (hown : w.ownsRow base el i.size v n xs) (ad : Option Addr) (c : Nat) :
    (Builtin.append_ #[t, t] ty #[v, .slice ad 0 c]).run P w = .ok v w := by
  have hf : ∀ w : World, (Builtin.firstCells i.size 0 (.slice ad 0 c)).run P w = .ok #[] w := by
    intro w
    cases ad with
    | none => simp [Builtin.firstCells]
    | some ad => simp [Builtin.firstCells, loadCells, loadCellsFrom]
  rcases hown.2 with ⟨rfl, rfl⟩ | ⟨g, cap, cur, rfl, _, _, hnc, _⟩
  · simp [Builtin.append_, run_underlying ht, sizeOf, typeInfo, hi, Builtin.lenOf, hf]
  · simp [Builtin.append_, run_underlying ht, sizeOf, typeInfo, hi, Builtin.lenOf, hf, hnc, storeCells]

/-- What a row holds, and then some. -/
theorem row_more {ok : Nat → Nat → Prop} {w' : World} {c : Nat} {l m : List (List AV)} {xs news : List Value} (hx : xs.length = l.length * c)
    (hl : ∀ i j, i < l.length → j < c → RepR w' ok (xs.getD (i * c + j) undef) ((l.getD i []).getD j .unk) ∧ ((l.getD i []).getD j .unk).pure = true)
    (hm : ∀ i j, i < m.length → j < c → RepR w' ok (news.getD (i * c + j) undef) ((m.getD i []).getD j .unk) ∧ ((m.getD i []).getD j .unk).pure = true) :
    ∀ i j, i < (l ++ m).length → j < c → RepR w' ok ((xs ++ news).getD (i * c + j) undef) (((l ++ m).getD i []).getD j .unk) ∧ (((l ++ m).getD i []).getD j .unk).pure = true := by
  intro i j hi hj
  by_cases h1 : i < l.length
  · have hlt : i * c + j < xs.length := by
      rw [hx]
      have : (i + 1) * c ≤ l.length * c := Nat.mul_le_mul_right _ h1
      rw [Nat.add_mul] at this; omega
    have e1 : (xs ++ news).getD (i * c + j) undef = xs.getD (i * c + j) undef := by simp [List.getD_eq_getElem?_getD, List.getElem?_append_left hlt]
    have e2 : (l ++ m).getD i [] = l.getD i [] := by simp [List.getD_eq_getElem?_getD, List.getElem?_append_left h1]
    rw [e1, e2]; exact hl i j h1 hj
  · have hge : xs.length ≤ i * c + j := by
      rw [hx]
      have : l.length * c ≤ i * c := Nat.mul_le_mul_right _ (by omega)
      omega
    have e3 : i * c + j - xs.length = (i - l.length) * c + j := by
      rw [hx, Nat.sub_mul]
      have : l.length * c ≤ i * c := Nat.mul_le_mul_right _ (by omega)
      omega
    have e1 : (xs ++ news).getD (i * c + j) undef = news.getD ((i - l.length) * c + j) undef := by simp [List.getD_eq_getElem?_getD, List.getElem?_append_right hge, e3]
    have e2 : (l ++ m).getD i [] = m.getD (i - l.length) [] := by simp [List.getD_eq_getElem?_getD, List.getElem?_append_right (Nat.le_of_not_lt h1)]
    rw [e1, e2]; exact hm _ j (by simp at hi; omega) hj

/-- The cells of a slice that is read, as one list. -/
theorem flat_of {ok : Nat → Nat → Prop} {v : Value} {m : List (List AV)} {c : Nat} (hr : RepR w ok v (.sl m)) (hpos : 0 < m.length) (hc : ∀ i, i < m.length → (m.getD i []).length = c) (hc0 : 0 < c) :
    ∃ (ad : Addr) (cap : Nat) (news : List Value), v = .slice (some ad) m.length cap ∧ news.length = m.length * c ∧ (∀ j u, news[j]? = some u → w.cell? (ad.add j) = some u) ∧ (∀ u ∈ news, u.oneCell' = true) ∧
      (∀ i j, i < m.length → j < c → RepR w ok (news.getD (i * c + j) undef) ((m.getD i []).getD j .unk) ∧ ((m.getD i []).getD j .unk).pure = true) := by
  cases hr with
  | sl0 a cap => simp at hpos
  | sl b off cap c' _ u hcap hcc hcell hpure hrep =>
    have hc' : c' = c := by rw [← hcc 0 hpos, hc 0 hpos]
    subst hc'
    let news : List Value := (List.range (m.length * c')).map fun k => u (k / c') (k % c')
    have hnl : news.length = m.length * c' := by simp [news]
    have hng : ∀ k, k < m.length * c' → news[k]? = some (u (k / c') (k % c')) := fun k hk => by simp [news, hk]
    have hdiv : ∀ k, k < m.length * c' → k / c' < m.length ∧ k % c' < c' ∧ off + (k / c') * c' + k % c' = off + k := fun k hk => by
      refine ⟨(Nat.div_lt_iff_lt_mul hc0).2 hk, Nat.mod_lt _ hc0, ?_⟩
      have := Nat.div_add_mod k c'
      rw [Nat.mul_comm] at this; omega
    refine ⟨⟨b, off, none⟩, cap, news, rfl, hnl, fun j v hj => ?_, fun v hv => ?_, fun i j hi hj => ?_⟩
    · have hlt : j < m.length * c' := by rw [← hnl]; exact (List.getElem?_eq_some_iff.1 hj).1
      rw [hng j hlt] at hj
      cases hj
      obtain ⟨q1, q2, q3⟩ := hdiv j hlt
      rw [Addr.add_lit, ← q3]
      exact (hcell _ _ q1 q2).2
    · obtain ⟨k, hk⟩ := List.mem_iff_getElem?.1 hv
      have hlt : k < m.length * c' := by rw [← hnl]; exact (List.getElem?_eq_some_iff.1 hk).1
      rw [hng k hlt] at hk
      cases hk
      obtain ⟨q1, q2, q3⟩ := hdiv k hlt
      exact (hrep _ _ q1 q2).oneCell (hpure _ _ q1 q2)
    · have hlt : i * c' + j < m.length * c' := by
        have : (i + 1) * c' ≤ m.length * c' := Nat.mul_le_mul_right _ hi
        rw [Nat.add_mul] at this; omega
      have hd : (i * c' + j) / c' = i := by rw [Nat.add_comm, Nat.add_mul_div_right _ _ hc0, Nat.div_eq_of_lt hj, Nat.zero_add]
      have hmm : (i * c' + j) % c' = j := by rw [Nat.add_comm, Nat.add_mul_mod_self_right]; exact Nat.mod_eq_of_lt hj
      rw [List.getD_eq_getElem?_getD, hng _ hlt, hd, hmm]
      exact ⟨hrep i j hi hj, hpure i j hi hj⟩

theorem blkOf_own {E c n : Nat} {v : Value} {xs : List Value} (h : w.ownsRow base E c v n xs) : blkOf v = v.ownBlock := by
  rcases h.2 with ⟨rfl, _⟩ | ⟨g, cap, cur, rfl, _⟩ <;> rfl

theorem allLen {m : List (List AV)} {c : Nat} (h : m.all (fun y => y.length == c) = true) : ∀ i, i < m.length → (m.getD i []).length = c := fun i hi => by
  have h6 := List.all_eq_true.1 h (m.getD i []) (by rw [List.getD_eq_getElem?_getD, List.getElem?_eq_getElem hi]; simp)
  simpa using h6

/-- The row behind an append. -/
theorem append_rel (h : Rel base w0 ok0 e a w G) {d g E c f : Nat} {l m : List (List AV)} {v v' : Value} {n : Nat} {xs news : List Value} {w' : World} (hd : d < e.objs.length) (hg : e.gen d < g)
    (hown0 : w.ownsRow base E c v l.length xs) (hown : w'.ownsRow base E c v' (l.length + m.length) (xs ++ news)) (hgr : w.grownBy w' v.ownBlock)
    (hkeep : ∀ b, v.ownBlock = some b → ∀ o, o < l.length * c → w'.cell? ⟨b, o, none⟩ = w.cell? ⟨b, o, none⟩) (hblk : v'.ownBlock = v.ownBlock ∨ v'.ownBlock = some w.heap.size)
    (hmine : ∀ b, v.ownBlock = some b → (∀ o, G.ok b o → o < f * c) ∧ ∀ d', d' ≠ d → d' < e.objs.length → (e.kind d').live = true → blkOf (G.sv d') ≠ some b) (hf : f ≤ l.length)
    (hlc : ∀ i, i < (l ++ m).length → ((l ++ m).getD i []).length = c)
    (hl : ∀ i j, i < l.length → j < c → RepR w G.ok (xs.getD (i * c + j) undef) ((l.getD i []).getD j .unk) ∧ ((l.getD i []).getD j .unk).pure = true)
    (hm : ∀ i j, i < m.length → j < c → RepR w G.ok (news.getD (i * c + j) undef) ((m.getD i []).getD j .unk) ∧ ((m.getD i []).getD j .unk).pure = true) :
    Rel base w0 ok0 (e.setObj d g (.row E c f (l ++ m))) a w' (G.at_ d v') := by
  have hvb : ∀ b, v.ownBlock = some b → base ≤ b := fun b hb => (ownBlock_blkOf hown0 (by rw [blkOf_own hown0]; exact hb)).2.1
  have hB : Below base w w' := ⟨hgr.os, hgr.tape, hgr.output, hgr.size, fun k hk => hgr.block k (Nat.lt_of_lt_of_le hk h.base_le) (fun e => by have := hvb k e.symm; omega)⟩
  have hok : ∀ b o, G.ok b o → SameAt w w' b o := by
    intro b o hb
    by_cases hbo : v.ownBlock = some b
    · refine ⟨hkeep b hbo o (Nat.lt_of_lt_of_le ((hmine b hbo).1 o hb) (Nat.mul_le_mul_right c hf)), fun es q hq => ?_⟩
      rcases hown0.2 with ⟨rfl, _⟩ | ⟨g', cap', cur', hv', _, hg', _⟩
      · simp [Value.ownBlock] at hbo
      · rw [hv'] at hbo
        simp only [Value.ownBlock, Option.some.injEq] at hbo
        rw [← hbo, hg'] at hq
        cases hq
    · exact SameAt.of_block (hgr.block b (h.okb b o hb) (fun e => hbo e.symm))
  refine h.change hd (Weaker.newer hd hg) hB (fun d' hdd hl' b hb => ?_) hok (fun hh => by omega) (fun hh => by omega) (by omega) ?_ (fun _ b hb d' hdd hd' hl' hc => ?_)
  · have hd' : d' < e.objs.length := kind_lt hl'
    refine hgr.block b (h.blk hd' hl' hb).2 (fun e => ?_)
    exact (hmine b e.symm).2 d' hdd hd' hl' hb
  · refine ⟨by simp; omega, hlc, xs ++ news, by simpa [Gh.at_] using hown, ?_, fun b hb o ho => ?_⟩
    · exact row_more hown0.1 (fun i j hi hj => ⟨RepR.mono (fun _ _ hh => hh) hok (hl i j hi hj).1, (hl i j hi hj).2⟩) (fun i j hi hj => ⟨RepR.mono (fun _ _ hh => hh) hok (hm i j hi hj).1, (hm i j hi hj).2⟩)
    · have hb' : v'.ownBlock = some b := by rw [← blkOf_own hown]; simpa [Gh.at_] using hb
      have ho' : G.ok b o := ho
      rcases hblk with hh | hh
      · exact (hmine b (by rw [← hh]; exact hb')).1 o ho'
      · rw [hb'] at hh
        cases hh
        have := h.okb _ _ ho'; omega
  · have hb' : v'.ownBlock = some b := by rw [← blkOf_own hown]; exact hb
    rcases hblk with hh | hh
    · exact (hmine b (by rw [← hh]; exact hb')).2 d' hdd hd' hl' hc
    · rw [hb'] at hh
      cases hh
      have := (h.blk hd' hl' hc).2; omega

theorem Env.freeze_gen (ks : List Nat) (d : Nat) : (e.freeze ks).gen d = e.gen d := by
  induction ks generalizing e with
  | nil => rfl
  | cons k ks ih => rw [Env.freeze_cons, ih, Env.freeze1_gen]
theorem Env.freeze_len (ks : List Nat) : (e.freeze ks).objs.length = e.objs.length := by
  induction ks generalizing e with
  | nil => rfl
  | cons k ks ih => rw [Env.freeze_cons, ih, Env.freeze1_len]
theorem inv_nil {v : Value} (h : RepT w G e v .nil) : v = .slice none 0 0 := by
  cases (show RepR w G.ok v .nil from h); rfl

theorem sim_app (h : Rel base w0 ok0 e a w G) {s x : Operand} {s' x' : X} {t el : TypeId} {z : List AV × Nat × Nat} {c : Call} (ho : o.op = .call c) (hc : c.callee = .builtin .append) (hargs : c.args = #[s, x]) (hts : c.argTypes = #[t, t])
    (hs : compX s = some s') (hx : compX x = some x') (ht : P.underlying t = some (.slice el)) (hz : zeroOf P el = some z) (h0 : 0 < z.2.1) (hb0 : 0 < z.2.2)
    (he : evalO R e o.dst (.app el z.2.1 z.2.2 s' x') = some e') (hK : ∀ a' w' G', Rel base w0 ok0 e' a' w' G' → K a' w') : o.wp P a w K Q := by
  simp only [evalO, appendA] at he
  have hsr := compX_rep hs h
  have hxr := compX_rep hx h
  obtain ⟨i, zv, z1, z2, z3, z4, z5, z6, z7⟩ := zeroOf_spec hz
  cases hm : e.elems (e.get x') with
  | none => simp [hm] at he
  | some r =>
    obtain ⟨m, ks⟩ := r
    simp only [hm] at he
    have hrep := elems_rep h hxr hm
    have hfz := h.freeze ks
    have hrunOf : ∀ {v' : Value} {w' : World}, (Builtin.append_ #[t, t] o.type #[a.eval s, a.eval x]).run P w = .ok v' w' → (execOp a.eval o).run P w = .ok (.value v') w' := by
      intro v' w' hr
      simp [execOp, ho, resolve, hc, hargs, hts, invoke, builtin, hr]
    -- what the machine does, onto whatever row
    have main : ∀ {n : Nat} {xs : List Value}, w.ownsRow base el i.size (a.eval s) n xs → (n + m.length) * i.bytes ≤ 140737488355328 → (∀ q, q < m.length → (m.getD q []).length = i.size) →
        ∃ v' w' news, (Builtin.append_ #[t, t] o.type #[a.eval s, a.eval x]).run P w = .ok v' w' ∧ w'.ownsRow base el i.size v' (n + m.length) (xs ++ news) ∧ w.grownBy w' (a.eval s).ownBlock ∧
          (∀ b, (a.eval s).ownBlock = some b → ∀ o, o < n * i.size → w'.cell? ⟨b, o, none⟩ = w.cell? ⟨b, o, none⟩) ∧ (v'.ownBlock = (a.eval s).ownBlock ∨ v'.ownBlock = some w.heap.size) ∧
          ∀ q j, q < m.length → j < i.size → RepR w (G.frz e ks).ok (news.getD (q * i.size + j) undef) ((m.getD q []).getD j .unk) ∧ ((m.getD q []).getD j .unk).pure = true := by
      intro n xs hown hby hlen
      by_cases hm0 : m.length = 0
      · have hmm : m = [] := List.eq_nil_of_length_eq_zero hm0
        subst hmm
        obtain ⟨ad, cap, hv, _⟩ := inv_sl hrep
        rw [hv]
        refine ⟨a.eval s, w, [], append_zero ht z1 hown ad cap, by simpa using hown, ⟨rfl, rfl, rfl, Nat.le_refl _, fun _ _ _ => rfl⟩, fun _ _ _ _ => rfl, .inl rfl, fun q j hq => absurd hq (by simp)⟩
      · obtain ⟨ad, cap, news, hv, q1, q2, q3, q4⟩ := flat_of hrep (by omega) hlen (by omega)
        have h63 : n + m.length ≤ maxLen := by
          have hbp : 0 < i.bytes := by rw [z6]; exact hb0
          have : n + m.length ≤ (n + m.length) * i.bytes := Nat.le_mul_of_pos_right _ hbp
          simp only [maxLen]; omega
        obtain ⟨v', w', r1, r2, r3, r4, r5⟩ := append_law (P := P) (w := w) (ty := o.type) ht z1 z2 z7 (by omega) hown q1 q2 q3 (by omega) h63 hby h.base_le (c := cap)
        rw [hv]
        exact ⟨v', w', news, r1, r2, r3, r4, r5, q4⟩
    have hzi : i.size = z.2.1 := z5
    cases hgs : e.get s' <;> simp only [hgs] at he hsr <;> try (cases he; done)
    case nil =>
      cases hdst : o.dst with
      | none => simp [hdst] at he
      | some d =>
        simp only [hdst] at he
        by_cases hb : m.length * z.2.2 ≤ 140737488355328 ∧ m.all (fun y => y.length == z.2.1) = true ∧ d < e.objs.length
        case neg => rw [if_neg hb] at he; cases he
        rw [if_pos hb] at he
        obtain ⟨b1, b2, b3⟩ := hb
        have hv : a.eval s = .slice none 0 0 := inv_nil hsr
        have hown0 : w.ownsRow base el i.size (a.eval s) 0 [] := by rw [hv]; exact World.ownsRow_nil w base el i.size
        obtain ⟨v', w', news, r1, r2, r3, r4, r5, r6⟩ := main hown0 (by rw [Nat.zero_add, z6]; exact b1) (fun q hq => by rw [hzi]; exact allLen b2 q hq)
        have hgen : (e.freeze ks).gen d = e.gen d := Env.freeze_gen ks d
        have hd' : d < (e.freeze ks).objs.length := by rw [Env.freeze_len ks]; exact b3
        have hrel := append_rel (c := i.size) (E := el) (f := 0) (l := []) (m := m) (n := 0) hfz (d := d) (g := e.gen d + 1) (v := a.eval s) (v' := v') (xs := []) (news := news) hd' (by rw [hgen]; omega)
          hown0 (by simpa using r2) r3 (by simp) r5 (fun b hb => by rw [hv] at hb; simp [Value.ownBlock] at hb) (Nat.le_refl _) (fun q hq => by rw [hzi]; exact allLen b2 q hq) (fun q j hq => absurd hq (by simp)) r6
        rw [hzi] at hrel
        cases he
        refine wp_value (hrunOf r1) ?_
        rw [hdst]
        refine hK _ _ _ (hrel.put (some d) ?_)
        exact ⟨by rw [Env.setObj_len]; exact hd', by rw [Env.setObj_gen _ _ _ _ _ hd', if_pos rfl]; exact Nat.le_refl _, fun E c f l' hk' => by simp [Gh.at_]⟩
    case own d g =>
      cases hk : (e.freeze ks).ok? d g with
      | none => simp [hk] at he
      | some k =>
        cases k <;> simp only [hk] at he <;> try (cases he; done)
        rename_i E c' f l
        by_cases hb : E = el ∧ c' = z.2.1 ∧ (l.length + m.length) * z.2.2 ≤ 140737488355328 ∧ m.all (fun y => y.length == z.2.1) = true
        case neg => rw [if_neg hb] at he; cases he
        rw [if_pos hb] at he
        obtain ⟨rfl, rfl, b1, b2⟩ := hb
        obtain ⟨hd', hgen, hkind⟩ := Env.ok?_eq hk
        obtain ⟨q1, q2, xs, q3, q4, q5, _⟩ := row_cells hfz hk
        have hvs : a.eval s = G.sv d := by
          have h7 : RepT w (G.frz e ks) (e.freeze ks) (a.eval s) (.own d g) := RepT.frz ks hsr
          have := h7.2.2 _ _ _ _ hk
          rwa [Gh.frz_sv] at this
        have q3' : w.ownsRow base E i.size (a.eval s) l.length xs := by
          rw [hzi, hvs]
          rwa [Gh.frz_sv] at q3
        obtain ⟨v', w', news, r1, r2, r3, r4, r5, r6⟩ := main q3' (by rw [z6]; exact b1) (fun q hq => by rw [hzi]; exact allLen b2 q hq)
        have hblk := blkOf_own q3'
        have hrel := append_rel (c := i.size) (E := E) (f := f) (l := l) (m := m) (n := 0) hfz (d := d) (g := g + 1) (v := a.eval s) (v' := v') (xs := xs) (news := news) hd' (by rw [hgen]; omega)
          q3' r2 r3 r4 r5 (fun b hb => ⟨fun o' ho' => by
              rw [hzi]
              exact q5 b (by rw [Gh.frz_sv, ← hvs, hblk]; exact hb) o' ho', fun d' hdd hd'' hl' hc' => by
              refine hdd (hfz.inj d' d hd'' hd' hl' (by rw [hkind]; rfl) b hc' ?_)
              rw [Gh.frz_sv, ← hvs, hblk]; exact hb⟩) q1 (fun q hq => by
              rw [hzi]
              by_cases hql : q < l.length
              · have e2 : (l ++ m).getD q [] = l.getD q [] := by simp [List.getD_eq_getElem?_getD, List.getElem?_append_left hql]
                rw [e2]; exact q2 q hql
              · have e2 : (l ++ m).getD q [] = m.getD (q - l.length) [] := by simp [List.getD_eq_getElem?_getD, List.getElem?_append_right (Nat.le_of_not_lt hql)]
                rw [e2]; exact allLen b2 _ (by simp at hq; omega)) (by rw [hzi]; exact q4) r6
        rw [hzi] at hrel
        cases he
        refine wp_value (hrunOf r1) (hK _ _ _ (hrel.put o.dst ?_))
        exact ⟨by rw [Env.setObj_len]; exact hd', by rw [Env.setObj_gen _ _ _ _ _ hd', if_pos rfl]; exact Nat.le_refl _, fun E c f l' hk' => by simp [Gh.at_]⟩

end
end Go.Bv

set_option linter.unusedVariables false
set_option linter.unusedSimpArgs false
namespace Go.Bv
open Go.RowKit

section
variable {P : Program} {base : Nat} {w0 : World} {ok0 : Nat → Nat → Prop} {e : Env} {a : Act} {w : World} {G : Gh}
variable {R : Nat → List AV → Option AV} {o : Oper} {K : Act → World → Prop} {Q : Exit → Act → World → Prop} {e' : Env}

theorem cellOk_rep (h : Rel base w0 ok0 e a w G) {v : Value} {A : AV} (hv : RepT w G e v A) (hA : e.cellOk A = true) : v.oneCell' = true ∧ v.cells = #[v] ∧ A.cell1 = true := by
  by_cases ho : ∃ d g, A = .own d g
  · obtain ⟨d, g, rfl⟩ := ho
    simp only [Env.cellOk] at hA
    cases hk : e.ok? d g with
    | none => simp [hk] at hA
    | some k =>
      cases k <;> simp [hk] at hA
      have hs := row_seen h (ok?_kind hk) (ks := [d]) (List.mem_singleton.2 rfl)
      rw [hv.2.2 _ _ _ _ hk]
      exact ⟨hs.oneCell rfl, RepR.cells_one hs rfl, rfl⟩
  · have hp : A.pure = true := by cases A <;> first | exact hA | exact absurd ⟨_, _, rfl⟩ ho
    have hr : RepR w G.ok v A := by cases A <;> first | exact hv | (simp [AV.pure] at hp)
    exact ⟨hr.oneCell hp, RepR.cells_one hr hp, AV.pure_cell1 hp⟩

/-- What is stored, cell by cell. -/
theorem parts_rep (h : Rel base w0 ok0 e a w G) {v : Value} {A : AV} (hv : RepT w G e v A) (hA : (partsA A).all e.cellOk = true) :
    v.cells.size = (partsA A).length ∧ ∀ j, j < (partsA A).length → RepT w G e (v.cells.getD j undef) ((partsA A).getD j .unk) ∧ (v.cells.getD j undef).oneCell' = true ∧ ((partsA A).getD j .unk).cell1 = true := by
  by_cases hagg : ∃ m, A = .agg m
  · obtain ⟨m, rfl⟩ := hagg
    obtain ⟨vs, rfl, hs, hp, hr⟩ := inv_agg hv
    exact ⟨hs, fun j hj => ⟨(hr j hj).toT, (hr j hj).oneCell (hp j hj), AV.pure_cell1 (hp j hj)⟩⟩
  by_cases hago : ∃ j d g l, A = .aggo j d g l
  · obtain ⟨j0, d, g, l, rfl⟩ := hago
    obtain ⟨hd, hg, vs, rfl, q2, q3, q4, q6, q5⟩ := hv
    have hown : e.cellOk (.own d g) = true := List.all_eq_true.1 hA _ (by
      show AV.own d g ∈ l.set j0 (.own d g)
      rw [List.mem_iff_getElem]
      exact ⟨j0, by simpa using q3, by simp⟩)
    have hT : RepT w G e (vs.getD j0 undef) (.own d g) := ⟨hd, hg, q5⟩
    refine ⟨by show vs.size = (l.set j0 (.own d g)).length; simp [q2], fun j hj => ?_⟩
    have hj' : j < l.length := by simpa [partsA] using hj
    show RepT w G e (vs.getD j undef) ((l.set j0 (.own d g)).getD j .unk) ∧ (vs.getD j undef).oneCell' = true ∧ ((l.set j0 (.own d g)).getD j .unk).cell1 = true
    by_cases hjj : j0 = j
    · subst hjj
      rw [getD_set_eq _ _ _ _ hj']
      obtain ⟨c1, c2, c3⟩ := cellOk_rep h hT hown
      exact ⟨hT, c1, c3⟩
    · rw [getD_set_ne' _ _ _ _ _ hjj]
      obtain ⟨r1, r2⟩ := q4 j hj' (fun hh => hjj hh.symm)
      exact ⟨r1.toT, r1.oneCell r2, AV.pure_cell1 r2⟩
  · have hpa : partsA A = [A] := by cases A <;> first | rfl | exact absurd ⟨_, rfl⟩ hagg | exact absurd ⟨_, _, _, _, rfl⟩ hago
    rw [hpa] at hA ⊢
    have hA' : e.cellOk A = true := by simpa using hA
    obtain ⟨q1, q2, q3⟩ := cellOk_rep h hv hA'
    rw [q2]
    refine ⟨rfl, fun j hj => ?_⟩
    have : j = 0 := by simp at hj; omega
    subst this
    exact ⟨hv, q1, q3⟩

theorem run_storeVar {t : TypeId} {n b off : Nat} {v : Value} {T : TypeId} {cur : Array Value} (hn : sizeOf? P t = some n) (hv : v.cells.size = n) (hb : w.heap[b]? = some (.cells cur T (0, 0))) (hfit : off + n ≤ cur.size) (h1 : ∀ j, j < n → (v.cells.getD j undef).oneCell' = true) :
    (storeVar t ⟨b, off, none⟩ v).run P w = .ok () (w.setRow b (cur.toList.take off ++ v.cells.toList ++ cur.toList.drop (off + n)).toArray) := by
  have hst := run_storeCells_at P b off T v.cells.toList 0 cur w hb (by simpa [hv] using hfit) (fun u hu => by
    obtain ⟨k, hk⟩ := List.mem_iff_getElem?.1 hu
    have hlt : k < v.cells.size := by simpa using (List.getElem?_eq_some_iff.1 hk).1
    have := h1 k (by omega)
    have e1 : v.cells.getD k undef = u := by
      rw [Array.getElem?_toList] at hk
      rw [Array.getD_eq_getD_getElem?, hk]; rfl
    rwa [e1] at this)
  simp only [Nat.add_zero, Array.length_toList, hv] at hst
  simp [storeVar, run_sizeOf hn, hv, hst]

theorem vsplice_getD (cur : Array Value) (off n : Nat) (vs : Array Value) (hv : vs.size = n) (h : off + n ≤ cur.size) (k : Nat) :
    ((cur.toList.take off ++ vs.toList ++ cur.toList.drop (off + n)).toArray).getD k undef = if k < off then cur.getD k undef else if k < off + n then vs.getD (k - off) undef else cur.getD k undef := by
  simp only [Array.getD_eq_getD_getElem?, List.getElem?_toArray, List.append_assoc]
  by_cases h1 : k < off
  · rw [if_pos h1, List.getElem?_append_left (by simp; omega), List.getElem?_take, if_pos h1, Array.getElem?_toList]
  · rw [if_neg h1, List.getElem?_append_right (by simp; omega)]
    have e1 : (cur.toList.take off).length = off := by simp; omega
    rw [e1]
    by_cases h2 : k < off + n
    · rw [if_pos h2, List.getElem?_append_left (by simp; omega), Array.getElem?_toList]
    · rw [if_neg h2, List.getElem?_append_right (by simp; omega), List.getElem?_drop, Array.getElem?_toList]
      congr 2; simp; omega
theorem vsplice_size (cur : Array Value) (off n : Nat) (vs : Array Value) (hv : vs.size = n) (h : off + n ≤ cur.size) :
    ((cur.toList.take off ++ vs.toList ++ cur.toList.drop (off + n)).toArray).size = cur.size := by
  simp; omega

theorem below_setRow {b : Nat} (cs : Array Value) (hb : base ≤ b) : Below base w (w.setRow b cs) :=
  ⟨rfl, rfl, rfl, by simp, fun k hk => setRow_other w b k cs (by omega)⟩

theorem sim_st (h : Rel base w0 ok0 e a w G) {t : TypeId} {p x : Operand} {p' x' : X} {n : Nat} (hp : compX p = some p') (hx : compX x = some x') (hn : sizeOf? P t = some n) (ho : o.op = .store t p x) (hdst : o.dst = none)
    (he : evalO R e o.dst (.st n p' x') = some e') (hK : ∀ a' w' G', Rel base w0 ok0 e' a' w' G' → K a' w') : o.wp P a w K Q := by
  simp only [evalO, storeA] at he
  have h1 := compX_rep hp h
  have h2 := compX_rep hx h
  have hrun : ∀ {b off : Nat} {w' : World}, a.eval p = .pointer (some ⟨b, off, none⟩) → (storeVar t ⟨b, off, none⟩ (a.eval x)).run P w = .ok () w' → (execOp a.eval o).run P w = .ok .skip w' := by
    intro b off w' hv hr
    simp only [execOp, ho, hv, Instr.storeAt, Instr.sureAddr, Sem.run_bind, Sem.run_pure, Result.andThen_ok, hr]
  have hput : a.put o.dst undef = a := by rw [hdst]; rfl
  cases hgp : e.get p' <;> simp only [hgp] at he h1 <;> try (cases he; done)
  case ptr d g off =>
    cases hk : e.ok? d g with
    | none => simp [hk] at he
    | some k =>
      cases k <;> simp only [hk] at he <;> try (cases he; done)
      rename_i l
      by_cases hb : (partsA (e.get x')).length = n ∧ off + n ≤ l.length ∧ (partsA (e.get x')).all e.cellOk = true
      case neg => rw [if_neg hb] at he; cases he
      rw [if_pos hb] at he
      cases he
      obtain ⟨b1, b2, b3⟩ := hb
      obtain ⟨b, vs, T, q1, q2, q3, q4, q5, q6, q7⟩ := box_cells h hk
      obtain ⟨bb, q1', hv⟩ := h1.2.2 l hk
      have : b = bb := by rw [q1] at q1'; simpa using q1'
      subst this
      obtain ⟨hd, hgen, hkind⟩ := Env.ok?_eq hk
      obtain ⟨c1, c2⟩ := parts_rep h h2 b3
      have hr := run_storeVar (P := P) (w := w) hn (by rw [c1, b1]) q3 (by rw [q4]; exact b2) (fun j hj => (c2 j (by omega)).2.1)
      refine wp_skip' (hrun hv hr) ?_
      rw [hput]
      have hfit : off + n ≤ vs.size := by rw [q4]; exact b2
      have hcs : (a.eval x).cells.size = n := by rw [c1, b1]
      refine hK _ _ (G.at_ d (G.sv d)) ?_
      rw [← hgen]
      have hWk := Weaker.sameBox (l' := splice l off (partsA (e.get x'))) hd hkind
      have hok : ∀ b' o', G.ok b' o' → SameAt w (w.setRow b (vs.toList.take off ++ (a.eval x).cells.toList ++ vs.toList.drop (off + n)).toArray) b' o' := by
        intro b' o' hb'
        have hne : b' ≠ b := fun hh => q6 o' (by rw [← hh]; exact hb')
        exact SameAt.of_block (setRow_other w b b' _ hne)
      have hT : ∀ v A, RepT w G e v A → RepT (w.setRow b (vs.toList.take off ++ (a.eval x).cells.toList ++ vs.toList.drop (off + n)).toArray) (G.at_ d (G.sv d)) (e.setObj d (e.gen d) (.box (splice l off (partsA (e.get x'))))) v A := fun v A hh =>
        RepT.mono (G := G) (G' := G.at_ d (G.sv d)) hWk (fun _ _ hh => hh) hok (fun d' _ _ _ _ _ => by simp only [Gh.at_]; split <;> simp_all) hh
      refine h.change hd hWk (below_setRow _ q2) (fun d' hdd hl' b' hb' => ?_) hok (fun _ _ => rfl) (fun _ => by rw [hkind]; rfl) (Nat.le_refl _) ?_ (fun _ b' hb' d' hdd hd' hl' hc => ?_)
      · have hne : b' ≠ b := fun hh => by
          subst hh
          exact hdd (h.inj d' d (kind_lt hl') hd hl' (by rw [hkind]; rfl) b' hb' (by rw [q1]; rfl))
        exact setRow_other w b b' _ hne
      · refine ⟨b, _, T, by simp [Gh.at_, q1], q2, setRow_heap w b vs _ T _ q3, ?_, fun j hj => ?_, q6⟩
        · rw [vsplice_size vs off n _ hcs hfit, splice_len l off _ (by rw [b1]; exact b2)]; exact q4
        · rw [splice_len l off _ (by rw [b1]; exact b2)] at hj
          rw [vsplice_getD vs off n _ hcs hfit j, splice_getD l off _ (by rw [b1]; exact b2) j, b1]
          by_cases r1 : j < off
          · rw [if_pos r1, if_pos r1]; exact ⟨hT _ _ (q5 j hj).1, (q5 j hj).2⟩
          · rw [if_neg r1, if_neg r1]
            by_cases r2 : j < off + n
            · rw [if_pos r2, if_pos r2]
              have := c2 (j - off) (by omega)
              exact ⟨hT _ _ this.1, this.2.2⟩
            · rw [if_neg r2, if_neg r2]; exact ⟨hT _ _ (q5 j hj).1, (q5 j hj).2⟩
      · exact hdd (h.inj d' d hd' hd hl' (by rw [hkind]; rfl) b' hc hb')
  case rp d g i j0 =>
    cases hm : e.cells (e.get x') with
    | none => simp [hm] at he
    | some r =>
      obtain ⟨m, ks⟩ := r
      simp only [hm] at he
      cases hk : (e.freeze ks).ok? d g with
      | none => simp [hk] at he
      | some k =>
        cases k <;> simp only [hk] at he <;> try (cases he; done)
        rename_i E c f l
        by_cases hb : m.length = n ∧ f ≤ i ∧ i < l.length ∧ j0 + n ≤ (l.getD i []).length
        case neg => rw [if_neg hb] at he; cases he
        rw [if_pos hb] at he
        cases he
        obtain ⟨b1, b2, b3, b4⟩ := hb
        have hfz := h.freeze ks
        obtain ⟨hd, hgen, hkind⟩ := Env.ok?_eq hk
        obtain ⟨q1, q2, xs, q3, q4, q5, q6⟩ := row_cells hfz hk
        have h1' : RepT w (G.frz e ks) (e.freeze ks) (a.eval p) (.rp d g i j0) := RepT.frz ks h1
        obtain ⟨b, nn, cap, hsv, hv⟩ := h1'.2.2 _ _ _ _ hk
        obtain ⟨c1, c2⟩ := cells_rep h h2 hm
        have hic : (l.getD i []).length = c := q2 i b3
        rcases q3.2 with ⟨hnil, hz⟩ | ⟨gb, cap', cur, s1, s2, s3, s4, s5, s6, s7⟩
        · rw [hsv] at hnil; simp at hnil
        have hbb : gb = b := by rw [hsv] at s1; simp at s1; exact s1.1.symm
        subst hbb
        have hbig : i * c + j0 + n ≤ l.length * c := by
          have : (i + 1) * c ≤ l.length * c := Nat.mul_le_mul_right _ b3
          rw [Nat.add_mul] at this; omega
        have hcap : l.length * c ≤ cap' * c := Nat.mul_le_mul_right _ s4
        have hfit : i * c + j0 + n ≤ cur.size := by rw [s6]; omega
        have hcs : (a.eval x).cells.size = n := by rw [c1, b1]
        have hr := run_storeVar (P := P) (w := w) hn hcs s3 hfit (fun j hj => ((c2 j (by omega)).1).oneCell (c2 j (by omega)).2)
        refine wp_skip' (hrun hv hr) ?_
        rw [hput]
        refine hK _ _ ((G.frz e ks).at_ d ((G.frz e ks).sv d)) ?_
        rw [← hgen]
        have hbk : blkOf ((G.frz e ks).sv d) = some gb := by rw [hsv]; rfl
        have hWk := Weaker.sameRow (f' := f) (l' := l.set i (splice (l.getD i []) j0 m)) hd hkind
        let cur' : Array Value := (cur.toList.take (i * c + j0) ++ (a.eval x).cells.toList ++ cur.toList.drop (i * c + j0 + n)).toArray
        have hcur' : ∀ k, cur'.getD k undef = if k < i * c + j0 then cur.getD k undef else if k < i * c + j0 + n then (a.eval x).cells.getD (k - (i * c + j0)) undef else cur.getD k undef := vsplice_getD cur (i * c + j0) n _ hcs hfit
        have hcsz : cur'.size = cur.size := vsplice_size cur (i * c + j0) n _ hcs hfit
        have hok : ∀ b' o', (G.frz e ks).ok b' o' → SameAt w (w.setRow gb cur') b' o' := by
          intro b' o' hb'
          by_cases hne : b' = gb
          · subst hne
            have hlt := q5 b' hbk o' hb'
            have hfi : f * c ≤ i * c := Nat.mul_le_mul_right _ b2
            refine ⟨?_, fun es q hq => by rw [s3] at hq; cases hq⟩
            rw [cell_of_row _ b' o' cur' E _ (setRow_heap w b' cur cur' E _ s3), cell_of_row w b' o' cur E (0, 0) s3]
            have := hcur' o'
            rw [if_pos (by omega)] at this
            rw [Array.getElem?_eq_getElem (show o' < cur'.size by omega), Array.getElem?_eq_getElem (show o' < cur.size by omega)]
            rw [Array.getD_eq_getD_getElem?, Array.getD_eq_getD_getElem?, Array.getElem?_eq_getElem (show o' < cur'.size by omega), Array.getElem?_eq_getElem (show o' < cur.size by omega)] at this
            simpa using this
          · exact SameAt.of_block (setRow_other w gb b' _ hne)
        refine hfz.change hd hWk (below_setRow _ s2) (fun d' hdd hl' b' hb' => ?_) hok (fun _ _ => rfl) (fun _ => by rw [hkind]; rfl) (Nat.le_refl _) ?_ (fun _ b' hb' d' hdd hd' hl' hc => ?_)
        · have hne : b' ≠ gb := fun hh => by
            subst hh
            exact hdd (hfz.inj d' d (kind_lt hl') hd hl' (by rw [hkind]; rfl) b' hb' hbk)
          exact setRow_other w gb b' _ hne
        · have hxs : ∀ k, k < l.length * c → xs.getD k undef = cur.getD k undef := fun k hk' => by
            rw [← s7, List.getD_eq_getElem?_getD, List.getElem?_take, if_pos hk', Array.getElem?_toList, Array.getD_eq_getD_getElem?]
          have hset : ∀ q, q < l.length → (l.set i (splice (l.getD i []) j0 m)).getD q [] = if q = i then splice (l.getD i []) j0 m else l.getD q [] := fun q hq => by
            by_cases hqi : q = i
            · subst hqi; rw [if_pos rfl, getD_set_eq _ _ _ _ b3]
            · rw [if_neg hqi, getD_set_ne' _ _ _ _ _ (Ne.symm hqi)]
          have hspl : (splice (l.getD i []) j0 m).length = c := by rw [splice_len _ _ _ (by rw [b1]; exact b4)]; exact hic
          refine ⟨by simpa using q1, fun q hq => ?_, (cur'.toList.take (l.length * c)), ⟨?_, .inr ⟨gb, cap', cur', by simpa [Gh.at_] using s1, s2, setRow_heap w gb cur cur' E _ s3, by simpa using s4, s5, by rw [hcsz]; exact s6, by simp⟩⟩, fun q j hq hj => ?_, fun b' hb' o' ho' => ?_⟩
          · simp only [List.length_set] at hq
            rw [hset q hq]
            by_cases hqi : q = i
            · rw [if_pos hqi]; exact hspl
            · rw [if_neg hqi]; exact q2 q hq
          · simp [hcsz]; omega
          · simp only [List.length_set] at hq
            have hlt : q * c + j < l.length * c := by
              have : (q + 1) * c ≤ l.length * c := Nat.mul_le_mul_right _ hq
              rw [Nat.add_mul] at this; omega
            have e1 : (cur'.toList.take (l.length * c)).getD (q * c + j) undef = cur'.getD (q * c + j) undef := by
              rw [List.getD_eq_getElem?_getD, List.getElem?_take, if_pos hlt, Array.getElem?_toList, Array.getD_eq_getD_getElem?]
            rw [e1, hcur', hset q hq]
            have keep : RepR (w.setRow gb cur') ((G.frz e ks).at_ d ((G.frz e ks).sv d)).ok (cur.getD (q * c + j) undef) ((l.getD q []).getD j .unk) ∧ ((l.getD q []).getD j .unk).pure = true := by
              rw [← hxs _ hlt]
              exact ⟨RepR.mono (fun _ _ hh => hh) hok (q4 q j hq hj).1, (q4 q j hq hj).2⟩
            by_cases hqi : q = i
            · subst hqi
              rw [if_pos rfl, splice_getD _ _ _ (by rw [b1]; exact b4), b1]
              by_cases r1 : j < j0
              · rw [if_pos (by omega), if_pos r1]; exact keep
              · rw [if_neg (by omega), if_neg r1]
                by_cases r2 : j < j0 + n
                · rw [if_pos (by omega), if_pos r2]
                  have e2 : q * c + j - (q * c + j0) = j - j0 := by omega
                  rw [e2]
                  have := c2 (j - j0) (by omega)
                  exact ⟨RepR.mono (fun _ _ hh => hh) hok this.1, this.2⟩
                · rw [if_neg (by omega), if_neg r2]; exact keep
            · rw [if_neg hqi]
              by_cases r1 : q * c + j < i * c + j0
              · rw [if_pos r1]; exact keep
              · rw [if_neg r1]
                have hqgt : ¬ (q * c + j < i * c + j0 + n) := by
                  intro hh
                  rcases Nat.lt_or_ge q i with hlt' | hge
                  · have : (q + 1) * c ≤ i * c := Nat.mul_le_mul_right _ hlt'
                    rw [Nat.add_mul] at this; omega
                  · have : (i + 1) * c ≤ q * c := Nat.mul_le_mul_right _ (by omega)
                    rw [Nat.add_mul] at this; omega
                rw [if_neg hqgt]; exact keep
          · exact q5 b' (by simpa [Gh.at_] using hb') o' ho'
        · exact hdd (hfz.inj d' d hd' hd hl' (by rw [hkind]; rfl) b' hc hb')

end
end Go.Bv
