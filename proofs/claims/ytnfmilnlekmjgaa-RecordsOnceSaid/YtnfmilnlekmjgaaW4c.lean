/- BY VALUE, chapter 26: CheckFile's contract (2): the loop, and the whole. -/
import Derived.Test.YtnfmilnlekmjgaaW4d
set_option linter.unusedSimpArgs false
set_option linter.unusedVariables false
namespace Go.Bv
attribute [local congr] ite_congr congr_bindOps congr_bindC congr_andThen congr_orNone congr_onBool congr_onEff congr_headC
set_option maxRecDepth 100000
set_option maxHeartbeats 40000000
open Go.Proofs Go.RowKit P28
theorem run_fa0 {a : Act} {w : World} {o : Oper} {b : Nat} (ho : o.op = .fieldAddr 165 (.tmp 7) 0) (hv : a.tmps.getD 7 undef = .pointer (some ⟨b, 0, none⟩)) : (execOp a.eval o).run Try.prog w = .ok (.value (.pointer (some ⟨b, 0, none⟩))) w := by
  obtain ⟨i, hi, hs⟩ := Option.map_eq_some_iff.1 key_size
  have hv' : a.eval (.tmp 7) = .pointer (some ⟨b, 0, none⟩) := hv
  simp [execOp, ho, hv', Instr.fieldAt, run_underlying Try.underlying165, Instr.sureAddr, fieldPlace, sizeOf, typeInfo, hi, hs, Addr.add_lit]
theorem run_ld9 {a : Act} {w : World} {o : Oper} {b : Nat} {s : ByteArray} (ho : o.op = .load 9 (.tmp 63)) (hv : a.tmps.getD 63 undef = .pointer (some ⟨b, 0, none⟩)) (hc : w.cell? ⟨b, 0, none⟩ = some (.string s)) :
    (execOp a.eval o).run Try.prog w = .ok (.value (.string s)) w := by
  have hv' : a.eval (.tmp 63) = .pointer (some ⟨b, 0, none⟩) := hv
  have hl := run_loadVar_one (P := Try.prog) (w := w) Try.underlying9 (fun fs h => by cases h) (fun n el h => by cases h) hc
  simp only [execOp, ho, hv', Instr.loadAt, Instr.sureAddr, Sem.run_bind, Sem.run_pure, Result.andThen_ok, hl]
noncomputable abbrev LBc : Code := .seq R6 (.seq CN (.seq (.block 1 (.seq R7 (.seq R8 (.seq CN2 H2)))) R12))
theorem keyErr_has {l : List Fd} {seen : List (ByteArray × Bool)} {k : ByteArray × Bool} (h : (keyErr l seen k != 0) = false) : mapHas (seen.map ent) k.1 = false := by
  have h0 : keyErr l seen k = 0 := by simpa using h
  unfold keyErr at h0
  exact cond_zero (by omega) (first_zero h0 (cond (mapHas (seen.map ent) k.1) 13) (by simp))
theorem loop28 {base : Nat} {w0 : World} (fn n : ByteArray) (l : List Fd) (ks : List (ByteArray × Bool)) (u : Bool) (hl : l.length ≤ 1000) (hk : ks.length ≤ 1000) {Q : Exit → Act → World → Prop} (res : Int × Int)
    (hret : ∀ a w, a.tmps.size = 66 → a.defers = [] → a.tmps.getD 2 undef = .int .i64 res.1 → a.tmps.getD 3 undef = .int .i64 res.2 → Below base w0 w → Q .ret a w)
    (hexit : res = (0, 0) → ∀ a w, a.tmps.size = 66 → a.defers = [] → Below base w0 w → base ≤ w.heap.size → Q (.exit 0) a w) :
    ∀ (m i : Nat), i + m = ks.length → ∀ a w, LI base w0 (fileC fn n l ks u) ((ks.take i).map ent) ks i a w → keysGo l (ks.take i) (ks.drop i) i = res → Code.rounds Try.prog LBc Q (m + 1) a w := by
  intro m
  induction m with
  | zero =>
    intro i hi a w h hres
    obtain rfl : i = ks.length := by omega
    obtain ⟨ok, hm, r0⟩ := h.rel
    obtain ⟨e6, g1, g2⟩ := evR_end (fileC fn n l ks u) ((ks.take ks.length).map ent) ks
    rw [rounds_succ]
    refine sim2 mixed RN compR6 compCN r0 g1 (fun a6 w6 G6 r6 => ?_)
    show Q (.exit 0) a6 w6
    rw [List.drop_eq_nil_of_le (Nat.le_refl _)] at hres
    exact hexit (by rw [← hres]; rfl) a6 w6 (r6.size.trans g2) r6.defers (h.bel.trans (r6.below.mono h.hb)) (Nat.le_trans h.hb r6.below.size)
  | succ m ih =>
    intro i hi a w h hres
    have hlt : i < ks.length := by omega
    obtain ⟨ok, hm, r0⟩ := h.rel
    generalize hki : ks.getD i (bs [], false) = k
    rw [drop_cons (bs [], false) hlt, hki] at hres
    rw [rounds_succ]
    cases he : (keyErr l (ks.take i) k != 0) with
    | true =>
      obtain ⟨e6, eR, g1, g2, f1, f2, f3⟩ := evR_err fn n l ks u (ks.take i) i hlt hk hl k hki he
      have hres' : ((i : Int), keyErr l (ks.take i) k) = res := by rw [← hres]; simp only [keysGo, he, if_true]
      refine sim2 mixed RN compR6 compCN r0 g1 (fun a6 w6 G6 r6 => ?_)
      show (Code.seq (Code.block 1 _) R12).wp _ _ a6 w6
      refine wp_seq (wp_block ?_)
      refine sim3 mixed RN compR7 compR8 compCN2 r6 g2 (fun a9 w9 G9 r9 => ?_)
      show Q .ret a9 w9
      refine hret a9 w9 (r9.size.trans f1) r9.defers (inv_int (by have := r9.tmps 2 (by omega); rwa [f2, show (i : Int) = res.1 from by rw [← hres']] at this)) (inv_int (by have := r9.tmps 3 (by omega); rwa [f3, show keyErr l (ks.take i) k = res.2 from by rw [← hres']] at this)) (h.bel.trans (r9.below.mono h.hb))
    | false =>
      obtain ⟨e6, e9, g1, g2, f1, f2, f3, f4, f5, f6, f7, f8⟩ := evR_ok fn n l ks u (ks.take i) i hlt hk hl k hki he
      have hhas := keyErr_has he
      have hres' : keysGo l (ks.take (i + 1)) (ks.drop (i + 1)) ((i + 1 : Nat) : Int) = res := by
        rw [← hres]
        simp only [keysGo, he, Bool.false_eq_true, if_false]
        have : ks.take (i + 1) = ks.take i ++ [k] := by
          rw [List.take_succ_eq_append_getElem hlt, ← hki]
          simp [List.getD_eq_getElem?_getD, List.getElem?_eq_getElem hlt]
        rw [this]
        rfl
      refine sim2 mixed RN compR6 compCN r0 g1 (fun a6 w6 G6 r6 => ?_)
      show (Code.seq (Code.block 1 _) R12).wp _ _ a6 w6
      refine wp_seq (wp_block ?_)
      refine sim3 mixed RN compR7 compR8 compCN2 r6 g2 (fun a9 w9 G9 r9 => ?_)
      show H2.wp _ _ a9 w9
      have s9 : a9.tmps.size = 66 := r9.size.trans f1
      have t1 := r9.tmps 1 (by omega)
      rw [f2] at t1
      have t5 := r9.tmps 5 (by omega)
      rw [f3] at t5
      have t32 := r9.tmps 32 (by omega)
      rw [f4] at t32
      have t33 := inv_int (by have := r9.tmps 33 (by omega); rwa [f5] at this)
      have t34 := inv_int (by have := r9.tmps 34 (by omega); rwa [f6] at this)
      have t7 := r9.tmps 7 (by omega)
      rw [f7] at t7
      obtain ⟨hd7, _, hbox⟩ := t7
      obtain ⟨b7, hsv, hv7⟩ := hbox _ f8
      obtain ⟨_, _, hkind⟩ := Env.ok?_eq f8
      have hob := r9.objs 7 hd7
      rw [hkind] at hob
      obtain ⟨b7', vs7, T7, q1, q2, q3, q4, q5, q6⟩ := hob
      rw [hsv] at q1
      obtain rfl : b7 = b7' := by simpa using q1
      have hq0 : vs7.getD 0 undef = .string k.1 := inv_str (q5 0 (by simp)).1
      have hcell : w9.cell? ⟨b7, 0, none⟩ = some (.string k.1) := by
        have h0 : 0 < vs7.size := by rw [q4]; simp
        rw [cell_of_row w9 b7 0 vs7 T7 (0, 0) q3, Array.getElem?_eq_getElem h0]
        rw [Array.getD_eq_getD_getElem?, Array.getElem?_eq_getElem h0] at hq0
        simpa using hq0
      generalize hv5 : a9.tmps.getD 5 undef = v5 at t5
      cases t5 with
      | mp r clock es _ hok hmap hes hal =>
        have hr : base ≤ r := by
          rcases Nat.lt_or_ge r base with hlt' | hge
          · exfalso
            have hb := h.hb
            have h1 := (r9.ok0 r 0 (by omega)).1 hok
            exact hm r 0 h1 hlt' es clock (by rw [← r9.below.block r (by omega)]; exact hmap)
          · exact hge
        refine wp_reg H2_eq H2_size ?_
        obtain ⟨o0, p1, p2, p3, p4⟩ := H2_0
        obtain ⟨o1, p5, p6, p7, p8⟩ := H2_1
        obtain ⟨o2, p9, p10, p11, p12⟩ := H2_2
        obtain ⟨o3, p13, p14, p15, p16⟩ := H2_3
        refine ops_cons (l := [1, 2, 3]) p1 p2 (wp_value (v := .map (some r)) (w' := w9) (by simp only [execOp, p3, Act.eval, hv5]; rfl) ?_)
        rw [p4]
        have z7 : (a9.put (some 62) (.map (some r))).tmps.getD 7 undef = .pointer (some ⟨b7, 0, none⟩) := by rw [Act.put_get (by omega), if_neg (by decide)]; exact hv7
        refine ops_cons (l := [2, 3]) p5 p6 (wp_value (run_fa0 p7 z7) ?_)
        rw [p8]
        refine ops_cons (l := [3]) p9 p10 (wp_value (run_ld9 p11 (by rw [Act.put_get (by rw [Act.put_size]; omega), if_pos rfl]) hcell) ?_)
        rw [p12]
        generalize ha3 : ((a9.put (some 62) (.map (some r))).put (some 63) (.pointer (some ⟨b7, 0, none⟩))).put (some 64) (.string k.1) = a3
        have get3 : ∀ t, t ≠ 62 → t ≠ 63 → t ≠ 64 → a3.tmps.getD t undef = a9.tmps.getD t undef := fun t n1 n2 n3 => by
          rw [← ha3, Act.put_get (by simp only [Act.put_size]; omega), if_neg (Ne.symm n3), Act.put_get (by simp only [Act.put_size]; omega), if_neg (Ne.symm n2), Act.put_get (by omega), if_neg (Ne.symm n1)]
        have get62 : a3.tmps.getD 62 undef = .map (some r) := by
          rw [← ha3, Act.put_get (by simp only [Act.put_size]; omega), if_neg (by decide), Act.put_get (by simp only [Act.put_size]; omega), if_neg (by decide), Act.put_get (by omega), if_pos rfl]
        have get64 : a3.tmps.getD 64 undef = .string k.1 := by
          rw [← ha3, Act.put_get (by simp only [Act.put_size]; omega), if_pos rfl]
        have s3 : a3.tmps.size = 66 := by rw [← ha3]; simp only [Act.put_size]; exact s9
        have d3 : a3.defers = [] := by rw [← ha3]; simp only [Act.put_defers]; exact r9.defers
        have hf := findNow_none k.1 es.toList (ks.take i) 0 hes hhas
        have hpush := run_push (P := Try.prog) (w := w9) Try.underlying163 Try.underlying9 hmap hf (.bool true)
        generalize hwz : ({ w9 with heap := w9.heap.setIfInBounds r (.map (es.push { key := .string k.1, val := .bool true, born := clock }) (clock + 1)) } : World) = wz at hpush
        have hset := MapKept.heap_set (w := w9) (o' := .map (es.push { key := .string k.1, val := .bool true, born := clock }) (clock + 1)) hmap
        have hzr : wz.heap[r]? = some (.map (es.push { key := .string k.1, val := .bool true, born := clock }) (clock + 1)) := by rw [← hwz]; exact hset.1
        have hzo : ∀ b, b ≠ r → wz.heap[b]? = w9.heap[b]? := fun b hb => by rw [← hwz]; exact hset.2 b hb
        have hzs : wz.heap.size = w9.heap.size := by rw [← hwz]; simp
        have belz : Below base w9 wz := ⟨by rw [← hwz], by rw [← hwz], by rw [← hwz], by omega, fun b hb => hzo b (by omega)⟩
        refine ops_cons (l := []) p13 p14 (wp_skip' (w' := wz) ?_ ?_)
        · have e1 : a3.eval (.tmp 62) = .map (some r) := get62
          have e2 : a3.eval (.tmp 64) = .string k.1 := get64
          have e3 : a3.eval (.const (.bool true)) = .bool true := rfl
          simp only [execOp, p15, e1, e2, e3, Sem.run_bind, hpush, Result.andThen_ok, Sem.run_pure]
        rw [p16]
        show R12.wp _ _ a3 wz
        have same : ∀ b o, (G9.ok b o ∧ ¬ b = r) → SameAt w9 wz b o := fun b o hb => SameAt.of_block (hzo b hb.2)
        have hX : ∀ b, b = r → ∃ es c, w9.heap[b]? = some (.map es c) := fun b hb => ⟨es, clock, by rw [hb]; exact hmap⟩
        have hsnoc : (ks.take (i + 1)).map ent = (ks.take i).map ent ++ [ent k] := by
          have : ks.take (i + 1) = ks.take i ++ [k] := by
            rw [List.take_succ_eq_append_getElem hlt, ← hki]
            simp [List.getD_eq_getElem?_getD, List.getElem?_eq_getElem hlt]
          rw [this]; simp
        have hLI : LI base w0 (fileC fn n l ks u) ((ks.take (i + 1)).map ent) ks i a3 wz := by
          refine ⟨s3, d3, by have := h.hb; have := r9.below.size; omega, (h.bel.trans (r9.below.mono h.hb)).trans belz, fun b o => (G9.ok b o ∧ ¬ b = r) ∨ b = r, fun b o hb => ?_, fun b o hb hlt' es' c' => ?_, ?_, ?_, ?_, ?_, ?_⟩
          · rw [hzs]
            rcases hb with hb | rfl
            · exact r9.okb b o hb.1
            · exact r9.okb b 0 hok
          · have hne : b ≠ r := by omega
            have hbb := h.hb
            rw [hzo b hne, r9.below.block b (by omega)]
            rcases hb with hb | hb
            · exact hm b o ((r9.ok0 b o (by omega)).1 hb.1) hlt' es' c'
            · exact absurd hb hne
          · rw [get3 1 (by decide) (by decide) (by decide)]
            exact RepR.mono (fun _ _ hb => .inl hb) same (RepR.nomap t1 (.inr (.inl ⟨_, rfl⟩)) (fun b => b = r) hX)
          · rw [get3 5 (by decide) (by decide) (by decide), hv5, hsnoc]
            refine .mp r (clock + 1) _ _ (.inr rfl) hzr ?_ ?_
            · simp only [Array.toList_push, List.map_append, List.map_cons, List.map_nil, hes]
              rfl
            · intro x hx
              rcases List.mem_append.1 hx with hx | hx
              · exact hal x hx
              · simp only [List.mem_singleton] at hx
                exact ⟨k.1, true, hx⟩
          · rw [get3 32 (by decide) (by decide) (by decide)]
            exact RepR.mono (fun _ _ hb => .inl hb) same (RepR.nomap t32 (.inl rfl) (fun b => b = r) hX)
          · rw [get3 33 (by decide) (by decide) (by decide)]; exact t33
          · rw [get3 34 (by decide) (by decide) (by decide)]; exact t34
        obtain ⟨ok2, hm2, r2⟩ := hLI.rel
        obtain ⟨e12, k1, k2, k3, k4, k5, k6, k7⟩ := evR12 (fileC fn n l ks u) ((ks.take (i + 1)).map ent) ks i hlt hk
        refine sim0 mixed RN compR12 r2 k1 (fun a13 w13 G13 r13 => ?_)
        show Code.rounds _ _ _ (m + 1) a13 w13
        exact ih (i + 1) (by omega) a13 w13 (LI.of r13 hLI.hb hLI.bel hm2 k2 k3 k4 k5 k6 k7) hres'
theorem ts5_get (F : List AV) (t : Nat) : (ts5 F).getD t .unk = if 5 = t then .mp [] else if 1 = t then .el F else .unk := by
  have e : ts5 F = ((List.replicate 66 AV.unk).set 1 (.el F)).set 5 (.mp []) := rfl
  rw [e, getD_set_if (by simp), getD_set_if (by simp), rep_get]
theorem fin28 {a : Act} {w w0 : World} {base : Nat} {ok0 : Nat → Nat → Prop} {r : Int × Int} (hd : a.defers = []) (h2 : a.tmps.getD 2 undef = .int .i64 r.1) (h3 : a.tmps.getD 3 undef = .int .i64 r.2) (hb : Below base w0 w) :
    bodyPost Try.prog Try.f28 (fun e w' => ∃ v, e = .returned v ∧ Below base w0 w' ∧ RepRes base ok0 w' v (.tup [.int .i64 r.1, .int .i64 r.2])) .ret a w := by
  refine ⟨hd, .tuple #[.int .i64 r.1, .int .i64 r.2], ?_, _, rfl, hb, ?_⟩
  · have hrs : Try.f28.results = #[.tmp 2, .tmp 3] := by kernel_rfl
    have hres := results_run (P := Try.prog) (fn := Try.f28) (tmps := a.tmps) (w := w) (v := fun r => match r with | .tmp t => a.tmps.getD t undef | _ => undef) (by
      rw [hrs]
      intro r hr'
      simp only [List.mem_cons, List.not_mem_nil, or_false] at hr'
      rcases hr' with rfl | rfl <;> rfl)
    have hfin : (Go.results Try.f28 a.tmps).run Try.prog w = .ok (.tuple #[a.tmps.getD 2 undef, a.tmps.getD 3 undef]) w := hres.trans rfl
    rw [h2, h3] at hfin
    exact hfin
  · show RepR w _ _ _
    refine .tup _ _ rfl (fun j hj => ?_)
    match j, hj with
    | 0, _ => exact .int _ _
    | 1, _ => exact .int _ _
theorem checkFile_ok (fn n : ByteArray) (l : List Fd) (ks : List (ByteArray × Bool)) (u : Bool) (hn : fn.size ≤ 1000000) (hsh : Short n l) (hk : ks.length ≤ 1000) :
    VSpec Try.prog 28 [.agg (fileC fn n l ks u)] (.tup [.int .i64 (checkFile fn n l ks).1, .int .i64 (checkFile fn n l ks).2]) := by
  intro w vs ok hok hl hr
  refine calls_of_wp Try.func28 B_eq ?_
  have hst := Rel.start (np := 1) (nt := 66) (rs := []) (k := .skip) hok hl (by simp) hr
  cases he : (fileE fn n l ks != 0) with
  | true =>
    obtain ⟨eR, h1, h2, h3, h4⟩ := evA_err fn n l ks u hn hsh he
    refine sim2 mixed RN compA0 compA1 hst h1 (fun a w' G r => ?_)
    have hv : checkFile fn n l ks = (0, fileE fn n l ks) := by unfold checkFile; rw [if_pos he]
    rw [hv]
    exact fin28 (r := (0, fileE fn n l ks)) r.defers (inv_int (by have := r.tmps 2 (by omega); rwa [h3] at this)) (inv_int (by have := r.tmps 3 (by omega); rwa [h4] at this)) r.below
  | false =>
    obtain ⟨eA, h1, h2, h3, h4⟩ := evA_ok fn n l ks u hn hsh he
    have hv : checkFile fn n l ks = keysGo l [] ks 0 := by unfold checkFile; rw [he]; rfl
    rw [hv]
    refine sim2 mixed RN compA0 compA1 hst h1 (fun aa wa Ga hRa => ?_)
    show (Code.seq H1 _).wp _ _ aa wa
    have s66 : aa.tmps.size = 66 := hRa.size.trans h2
    have t1 := hRa.tmps 1 (by omega)
    rw [h3] at t1
    obtain ⟨hd1, _, hbox⟩ := t1
    obtain ⟨b1, hsv, hv1⟩ := hbox _ h4
    obtain ⟨_, _, hkind⟩ := Env.ok?_eq h4
    have hob := hRa.objs 1 hd1
    rw [hkind] at hob
    obtain ⟨b1', vs1, T1, q1, q2, q3, q4, q5, q6⟩ := hob
    rw [hsv] at q1
    obtain rfl : b1 = b1' := by simpa using q1
    have hb1 : b1 < wa.heap.size := by
      rcases Nat.lt_or_ge b1 wa.heap.size with h' | h'
      · exact h'
      · simp [Array.getElem?_eq_none h'] at q3
    have hF : ∀ j, j < (fileC fn n l ks u).length → ((fileC fn n l ks u).getD j .unk).pure = true := fun j hj => by
      match j, hj with
      | 0, _ => rfl
      | 1, _ => rfl
      | 2, _ => rfl
      | 3, _ => rfl
      | 4, _ => rfl
    have hel : RepR wa (fun k o => Ga.ok k o ∨ k = b1) (.pointer (some ⟨b1, 0, none⟩)) (.el (fileC fn n l ks u)) := by
      refine .el b1 0 _ (fun j => vs1.getD j undef) (fun j hj => ⟨.inr rfl, ?_⟩) hF (fun j hj => ?_)
      · have hj' : j < vs1.size := by rw [q4]; exact hj
        simp [World.cell?, q3, hj', Array.getD_eq_getD_getElem?]
      · have h5 := (q5 j hj).1
        match j, hj, h5 with
        | 0, _, h5 => exact RepR.mono (fun _ _ h => .inl h) (fun _ _ _ => SameAt.refl) h5
        | 1, _, h5 => exact RepR.mono (fun _ _ h => .inl h) (fun _ _ _ => SameAt.refl) h5
        | 2, _, h5 => exact RepR.mono (fun _ _ h => .inl h) (fun _ _ _ => SameAt.refl) h5
        | 3, _, h5 => exact RepR.mono (fun _ _ h => .inl h) (fun _ _ _ => SameAt.refl) h5
        | 4, _, h5 => exact RepR.mono (fun _ _ h => .inl h) (fun _ _ _ => SameAt.refl) h5
    refine wp_seq (wp_reg H1_eq H1_size ?_)
    obtain ⟨o0, p1, p2, p3, p4⟩ := H1_0
    obtain ⟨o1, p5, p6, p7, p8⟩ := H1_1
    have hmk : (Instr.makeMap 163 none).run Try.prog wa = .ok (.map (some wa.heap.size)) (wa.alloc (.map #[] 0)) := rfl
    generalize hwB : wa.alloc (.map #[] 0) = wB at hmk
    refine ops_cons (l := [1]) p1 p2 (wp_value (v := .map (some wa.heap.size)) (w' := wB) (by simp only [execOp, p3, Sem.run_bind, Option.map_none, hmk, Result.andThen_ok, Sem.run_pure]) ?_)
    rw [p4]
    refine ops_cons (l := []) p5 p6 (wp_value (v := .map (some wa.heap.size)) (w' := wB) (by simp only [execOp, p7, Act.eval]; rw [Act.put_get (by omega), if_pos rfl]; rfl) ?_)
    rw [p8]
    show (Code.seq (Code.seq R5 _) E1).wp _ _ _ wB
    have hbB : Below wa.heap.size wa wB := by rw [← hwB]; exact (Below.refl _ _).alloc (Nat.le_refl _) _
    have hnew : wB.heap[wa.heap.size]? = some (.map #[] 0) := by rw [← hwB]; exact heap_alloc_new wa _
    have hlt : wa.heap.size < wB.heap.size := by
      rcases Nat.lt_or_ge wa.heap.size wB.heap.size with h' | h'
      · exact h'
      · simp [Array.getElem?_eq_none h'] at hnew
    generalize hab : (aa.put (some 30) (.map (some wa.heap.size))).put (some 5) (.map (some wa.heap.size)) = ab
    have sb : ab.tmps.size = 66 := by rw [← hab]; simp only [Act.put_size]; exact s66
    have db : ab.defers = [] := by rw [← hab]; simp only [Act.put_defers]; exact hRa.defers
    have g1 : ab.tmps.getD 1 undef = .pointer (some ⟨b1, 0, none⟩) := by rw [← hab, Act.put_get (by rw [Act.put_size]; omega), if_neg (by decide), Act.put_get (by omega), if_neg (by decide)]; exact hv1
    have g5 : ab.tmps.getD 5 undef = .map (some wa.heap.size) := by rw [← hab, Act.put_get (by rw [Act.put_size]; omega), if_pos rfl]
    have hle := hRa.base_le
    have hm0 : ∀ b o, (((Ga.ok b o ∨ b = b1) ∧ ¬ (b < w.heap.size ∧ ∃ es c, wa.heap[b]? = some (.map es c))) ∨ b = wa.heap.size) → b < w.heap.size → ∀ es c, wB.heap[b]? ≠ some (.map es c) := by
      intro b o hb hlt' es c hc
      rw [hbB.block b (by omega)] at hc
      rcases hb with hb | hb
      · exact hb.2 ⟨hlt', es, c, hc⟩
      · omega
    have rel0 : Rel wB.heap.size wB (fun b o => ((Ga.ok b o ∨ b = b1) ∧ ¬ (b < w.heap.size ∧ ∃ es c, wa.heap[b]? = some (.map es c))) ∨ b = wa.heap.size) ⟨ts5 (fileC fn n l ks u), List.replicate 66 ⟨0, .dead⟩⟩ ab wB ⟨fun _ => undef, fun b o => ((Ga.ok b o ∨ b = b1) ∧ ¬ (b < w.heap.size ∧ ∃ es c, wa.heap[b]? = some (.map es c))) ∨ b = wa.heap.size⟩ := by
      refine Rel.bare (ts := ts5 (fileC fn n l ks u)) sb db (fun b o hb => ?_) (fun t ht => ?_)
      · rcases hb with hb | hb
        · rcases hb.1 with hb | hb
          · have := hRa.okb b o hb; omega
          · omega
        · omega
      · rw [ts5_get]
        by_cases c5 : 5 = t
        · rw [if_pos c5, ← c5, g5]
          exact .mp wa.heap.size 0 #[] [] (.inr rfl) hnew rfl (by intro x hx; simp at hx)
        rw [if_neg c5]
        by_cases c1 : 1 = t
        · rw [if_pos c1, ← c1, g1]
          refine RepR.mono (fun b o hb => .inl hb) (fun b o hb => ?_) (RepR.nomap hel (.inr (.inl ⟨_, rfl⟩)) (fun b => b < w.heap.size ∧ ∃ es c, wa.heap[b]? = some (.map es c)) (fun b hb => hb.2))
          refine SameAt.of_block (hbB.block b ?_)
          rcases hb.1 with hb | hb
          · exact hRa.okb b o hb
          · omega
        rw [if_neg c1]
        exact .unk _
    obtain ⟨e5, k1, k2, k3, k4, k5, k6, k7⟩ := evR5 fn n l ks u
    refine wp_seq ?_
    refine sim1 mixed RN compR5 rel0 k1 (fun a5 w5 G5 r5 => ?_)
    show (Code.block 0 _).wp _ _ a5 w5
    have belB : Below w.heap.size w wB := hRa.below.trans (hbB.mono hle)
    have hLI : LI w.heap.size w (fileC fn n l ks u) ((ks.take 0).map ent) ks 0 a5 w5 := LI.of r5 (by omega) belB hm0 k2 k3 k4 k5 k6 k7
    refine wp_block (wp_loop_rounds (ks.length + 1) ?_)
    refine loop28 fn n l ks u hsh.2.1 hk (keysGo l [] ks 0) (fun a w' s d h2 h3 hb => ?_) (fun h0 a w' s d hb hbs => ?_) ks.length 0 (by omega) a5 w5 hLI (by simp)
    · exact fin28 d h2 h3 hb
    · show E1.wp _ _ a w'
      rw [h0]
      obtain ⟨eE, z1, z2, z3, z4⟩ := evE (List.replicate 66 .unk) rfl
      have relE : Rel w'.heap.size w' (fun _ _ => False) ⟨List.replicate 66 .unk, List.replicate 66 ⟨0, .dead⟩⟩ a w' ⟨fun _ => undef, fun _ _ => False⟩ :=
        Rel.bare (ts := List.replicate 66 .unk) (by rw [s]; rfl) d (fun _ _ h => h.elim) (fun t ht => by rw [rep_get]; exact .unk _)
      refine sim0 mixed RN compE1 relE z1 (fun az wz Gz rz => ?_)
      exact fin28 (r := (0, 0)) rz.defers (inv_int (by have := rz.tmps 2 (by omega); rwa [z3] at this)) (inv_int (by have := rz.tmps 3 (by omega); rwa [z4] at this)) (hb.trans (rz.below.mono hbs))
end Go.Bv
