/- BY VALUE, chapter 26: slices.Clone of records. -/
import Derived.Test.YtnfmilnlekmjgaaC26I
import Derived.Laws.Cover3
set_option linter.unusedVariables false
set_option linter.unusedSimpArgs false
namespace Go.Bv
open Go.Proofs Go.RowKit
namespace P138
def sq1 : Code → Code
  | .seq a _ => a
  | c => c
def sq2 : Code → Code
  | .seq _ b => b
  | c => c
def opsOf : Code → Array Oper
  | .region _ ops _ => ops
  | _ => #[]
noncomputable def B : Code := Try.f138.body.getD .skip
noncomputable def R0 : Code := sq1 B
noncomputable def R1 : Code := sq1 (sq1 (sq2 B))
noncomputable def R2 : Code := match sq2 (sq1 (sq2 B)) with
  | .cond _ a _ => sq1 a
  | c => c
noncomputable def R3 : Code := sq1 (sq2 (sq2 B))
theorem B_eq : Try.f138.body = some (.seq R0 (.seq (.seq R1 (.cond (.tmp 4) (.seq R2 .ret) .skip)) (.seq R3 .ret))) := by kernel_rfl
theorem R0_eq : R0 = .region 0 (opsOf R0) false := by kernel_rfl
theorem R0_size : (opsOf R0).size = 1 := by kernel_rfl
theorem R1_eq : R1 = .region 1 (opsOf R1) false := by kernel_rfl
theorem R1_size : (opsOf R1).size = 2 := by kernel_rfl
theorem R2_eq : R2 = .region 2 (opsOf R2) false := by kernel_rfl
theorem R2_size : (opsOf R2).size = 1 := by kernel_rfl
theorem R3_eq : R3 = .region 3 (opsOf R3) false := by kernel_rfl
theorem R3_size : (opsOf R3).size = 4 := by kernel_rfl
abbrev z : Oper := ⟨none, .ready 0, 0, "", #[], none⟩
theorem R0_0 : ∃ o, (opsOf R0)[0]? = some o ∧ o.guard = none ∧ o.op = .assign (.const (.slice none 0 0)) ∧ o.dst = some 2 := ⟨(opsOf R0)[0]?.getD z, by kernel_rfl, by kernel_rfl, by kernel_rfl, by kernel_rfl⟩
theorem R1_0 : ∃ o, (opsOf R1)[0]? = some o ∧ o.guard = none ∧ o.op = .move (.tmp 0) ∧ o.dst = some 3 := ⟨(opsOf R1)[0]?.getD z, by kernel_rfl, by kernel_rfl, by kernel_rfl, by kernel_rfl⟩
theorem R1_1 : ∃ o, (opsOf R1)[1]? = some o ∧ o.guard = none ∧ o.op = .binOp .eql 65 (.tmp 3) (.const (.slice none 0 0)) 65 ∧ o.dst = some 4 := ⟨(opsOf R1)[1]?.getD z, by kernel_rfl, by kernel_rfl, by kernel_rfl, by kernel_rfl⟩
theorem R2_0 : ∃ o, (opsOf R2)[0]? = some o ∧ o.guard = none ∧ o.op = .assign (.const (.slice none 0 0)) ∧ o.dst = some 2 := ⟨(opsOf R2)[0]?.getD z, by kernel_rfl, by kernel_rfl, by kernel_rfl, by kernel_rfl⟩
theorem R3_0 : ∃ o, (opsOf R3)[0]? = some o ∧ o.guard = none ∧ o.op = .buildSlice 65 0 #[] ∧ o.dst = some 5 := ⟨(opsOf R3)[0]?.getD z, by kernel_rfl, by kernel_rfl, by kernel_rfl, by kernel_rfl⟩
theorem R3_1 : ∃ o, (opsOf R3)[1]? = some o ∧ o.guard = none ∧ o.op = .move (.tmp 0) ∧ o.dst = some 6 := ⟨(opsOf R3)[1]?.getD z, by kernel_rfl, by kernel_rfl, by kernel_rfl, by kernel_rfl⟩
theorem R3_2 : ∃ o, (opsOf R3)[2]? = some o ∧ o.guard = none ∧ o.op = .call { callee := .builtin .append, args := #[.tmp 5, .tmp 6], argTypes := #[65, 65] } ∧ o.dst = some 7 := ⟨(opsOf R3)[2]?.getD z, by kernel_rfl, by kernel_rfl, by kernel_rfl, by kernel_rfl⟩
theorem R3_3 : ∃ o, (opsOf R3)[3]? = some o ∧ o.guard = none ∧ o.op = .assign (.tmp 7) ∧ o.dst = some 2 := ⟨(opsOf R3)[3]?.getD z, by kernel_rfl, by kernel_rfl, by kernel_rfl, by kernel_rfl⟩
theorem info87 : (Try.prog.info? 87).map (fun i => (i.zero, i.size, i.bytes)) = some (some (.agg #[.bool false, .string ⟨#[]⟩]), 2, 24) := by kernel_rfl
theorem run_nil {a : Act} {w : World} {o : Oper} (ho : o.op = .binOp .eql 65 (.tmp 3) (.const (.slice none 0 0)) 65) {ad : Option Addr} {n cap : Nat} (hv : a.tmps.getD 3 undef = .slice ad n cap) :
    (execOp a.eval o).run Try.prog w = .ok (.value (.bool ad.isNone)) w := by
  have hv' : a.eval (.tmp 3) = .slice ad n cap := hv
  have hc : a.eval (.const (.slice none 0 0)) = .slice none 0 0 := rfl
  have hg : ∀ x y, (eqGuard .eql 65 x y (.slice ad n cap) (.slice none 0 0)).run Try.prog w = .ok () w := fun x y => by simp [eqGuard]
  have he := run_equal_slice_nil (P := Try.prog) w 65 87 ad n cap Try.underlying65
  simp only [execOp, ho, hv', hc, Sem.run_bind, hg, Result.andThen_ok, binOp, he, Sem.run_pure]
end P138
open P138
theorem clone_ok (rs : List (List AV)) (hc : ∀ i, i < rs.length → (rs.getD i []).length = 2) (hlen : rs.length ≤ 1000000) : VSpec Try.prog 138 [.sl rs] (.fr 87 2 rs) := by
  intro w vs ok hok hl hr
  have hr0 : RepR w ok (vs.getD 0 undef) (.sl rs) := hr 0 (by simp)
  refine calls_of_wp Try.func138 B_eq ?_
  have hvs : vs = [vs.getD 0 undef] := by
    match vs, hl with
    | [v], _ => rfl
  generalize vs.getD 0 undef = v at hr0 hvs
  rw [hvs]
  have ha : ({ tmps := #[v] ++ Array.replicate (Try.f138.ntmps - (#[v] : Array Value).size) undef, defers := [] } : Act) = { tmps := #[v] ++ Array.replicate 7 undef, defers := [] } := rfl
  show (Code.seq R0 _).wp _ _ { tmps := #[v] ++ Array.replicate (Try.f138.ntmps - (#[v] : Array Value).size) undef, defers := [] } w
  rw [ha]
  generalize ha0 : ({ tmps := #[v] ++ Array.replicate 7 undef, defers := [] } : Act) = a0
  have s0 : a0.tmps.size = 8 := by rw [← ha0]; simp
  have d0 : a0.defers = [] := by rw [← ha0]
  have v0 : a0.tmps.getD 0 undef = v := by rw [← ha0]; simp
  obtain ⟨ad, n, cap, hv, hn0, had⟩ : ∃ ad n cap, v = .slice ad n cap ∧ n = rs.length ∧ (ad = none → rs = []) := by
    cases hr0 with
    | sl0 a cap => exact ⟨a, 0, cap, rfl, rfl, fun _ => rfl⟩
    | sl b o cap c _ u hcap _ _ _ _ => exact ⟨_, _, cap, rfl, rfl, fun h => by cases h⟩
  -- the results
  have fin : ∀ (a : Act) (w' : World), a.defers = [] → RepRes w.heap.size ok w' (a.tmps.getD 2 undef) (.fr 87 2 rs) → Below w.heap.size w w' →
      bodyPost Try.prog Try.f138 (fun e w' => ∃ v, e = .returned v ∧ Below w.heap.size w w' ∧ RepRes w.heap.size ok w' v (.fr 87 2 rs)) .ret a w' := fun a w' hd hrep hb =>
    ⟨hd, a.tmps.getD 2 undef, results_one (by kernel_rfl) a.tmps w', _, rfl, hb, hrep⟩
  refine wp_seq (wp_reg R0_eq R0_size ?_)
  obtain ⟨o, p1, p2, p3, p4⟩ := R0_0
  refine ops_cons (l := []) p1 p2 (wp_value (v := .slice none 0 0) (w' := w) (by simp [execOp, p3, Act.eval]) ?_)
  rw [p4]
  show (Code.seq (Code.seq R1 _) _).wp _ _ _ w
  refine wp_seq (wp_seq (wp_reg R1_eq R1_size ?_))
  obtain ⟨o1, p5, p6, p7, p8⟩ := R1_0
  obtain ⟨o2, p9, p10, p11, p12⟩ := R1_1
  refine ops_cons (l := [1]) p5 p6 (wp_value (v := v) (w' := w) (by simp only [execOp, p7, Act.eval]; rw [Act.put_get (by omega), if_neg (by decide), v0]; rfl) ?_)
  rw [p8]
  have s1 : (a0.put (some 2) (.slice none 0 0)).tmps.size = 8 := by rw [Act.put_size, s0]
  refine ops_cons (l := []) p9 p10 (wp_value (run_nil p11 (ad := ad) (n := n) (cap := cap) (by rw [Act.put_get (by omega), if_pos rfl, hv])) ?_)
  rw [p12]
  generalize ha1 : ((a0.put (some 2) (.slice none 0 0)).put (some 3) v).put (some 4) (.bool ad.isNone) = a1
  have sa1 : a1.tmps.size = 8 := by rw [← ha1]; simp only [Act.put_size]; exact s0
  have da1 : a1.defers = [] := by rw [← ha1]; simp only [Act.put_defers]; exact d0
  have v4 : a1.tmps.getD 4 undef = .bool ad.isNone := by rw [← ha1, Act.put_get (by simp only [Act.put_size]; omega), if_pos rfl]
  have v0' : a1.tmps.getD 0 undef = v := by
    rw [← ha1, Act.put_get (by simp only [Act.put_size]; omega), if_neg (by decide), Act.put_get (by simp only [Act.put_size]; omega), if_neg (by decide), Act.put_get (by omega), if_neg (by decide), v0]
  show (Code.cond _ _ _).wp _ _ a1 w
  refine wp_cond (t := ad.isNone) v4 ?_
  cases ad with
  | none =>
    obtain rfl := had rfl
    show (Code.seq R2 .ret).wp _ _ a1 w
    refine wp_seq (wp_reg R2_eq R2_size ?_)
    obtain ⟨o3, p13, p14, p15, p16⟩ := R2_0
    refine ops_cons (l := []) p13 p14 (wp_value (v := .slice none 0 0) (w' := w) (by simp [execOp, p15, Act.eval]) ?_)
    rw [p16]
    refine wp_ret ?_
    refine fin _ w (by rw [Act.put_defers]; exact da1) ?_ (Below.refl _ _)
    rw [Act.put_get (by omega), if_pos rfl]
    exact ⟨fun i hi => absurd hi (by simp), [], ⟨rfl, .inl ⟨rfl, rfl⟩⟩, fun i j hi => absurd hi (by simp)⟩
  | some ad =>
    show Code.skip.wp _ _ a1 w
    refine wp_skip ?_
    show (Code.seq R3 .ret).wp _ _ a1 w
    refine wp_seq (wp_reg R3_eq R3_size ?_)
    obtain ⟨o4, q1, q2, q3, q4⟩ := R3_0
    obtain ⟨o5, q5, q6, q7, q8⟩ := R3_1
    obtain ⟨o6, q9, q10, q11, q12⟩ := R3_2
    obtain ⟨o7, q13, q14, q15, q16⟩ := R3_3
    have hbs : (execOp a1.eval o4).run Try.prog w = .ok (.value (.slice (some ⟨w.heap.size, 0, none⟩) 0 0)) (w.alloc (.cells #[] 87)) := by
      simp [execOp, q3, Instr.buildSlice, run_underlying Try.underlying65, Try.sizeOf87, newRow, Instr.fill]
      have hz0 : Array.map (fun _ => (default : Value)) (Array.range 0) = #[] := by simp [Array.range]
      rw [hz0]
    refine ops_cons (l := [1, 2, 3]) q1 q2 (wp_value hbs ?_)
    rw [q4]
    generalize hw1 : w.alloc (.cells #[] 87) = w1
    have hb1 : Below w.heap.size w w1 := by rw [← hw1]; exact (Below.refl _ _).alloc (Nat.le_refl _) _
    have hnew : w1.heap[w.heap.size]? = some (.cells #[] 87 (0, 0)) := by rw [← hw1]; exact heap_alloc_new w _
    have hown : w1.ownsRow w.heap.size 87 2 (.slice (some ⟨w.heap.size, 0, none⟩) 0 0) 0 [] := ⟨rfl, .inr ⟨w.heap.size, 0, #[], rfl, Nat.le_refl _, hnew, Nat.le_refl _, Nat.zero_le _, rfl, rfl⟩⟩
    refine ops_cons (l := [2, 3]) q5 q6 (wp_value (v := v) (w' := w1) (by simp only [execOp, q7, Act.eval]; rw [Act.put_get (by omega), if_neg (by decide), v0']; rfl) ?_)
    rw [q8]
    generalize ha2 : (a1.put (some 5) (.slice (some ⟨w.heap.size, 0, none⟩) 0 0)).put (some 6) v = a2
    have sa2 : a2.tmps.size = 8 := by rw [← ha2]; simp only [Act.put_size]; exact sa1
    have da2 : a2.defers = [] := by rw [← ha2]; simp only [Act.put_defers]; exact da1
    have v5 : a2.eval (.tmp 5) = .slice (some ⟨w.heap.size, 0, none⟩) 0 0 := by
      show a2.tmps.getD 5 undef = _
      rw [← ha2, Act.put_get (by simp only [Act.put_size]; omega), if_neg (by decide), Act.put_get (by omega), if_pos rfl]
    have v6 : a2.eval (.tmp 6) = v := by
      show a2.tmps.getD 6 undef = _
      rw [← ha2, Act.put_get (by simp only [Act.put_size]; omega), if_pos rfl]
    obtain ⟨inf, hi, hi2⟩ := Option.map_eq_some_iff.1 info87
    simp only [Prod.mk.injEq] at hi2
    obtain ⟨hz, hsz, hby⟩ := hi2
    -- what comes out
    obtain ⟨v', w2, hrun, hres, hbel⟩ : ∃ v' w2, (Builtin.append_ #[65, 65] o6.type #[.slice (some ⟨w.heap.size, 0, none⟩) 0 0, v]).run Try.prog w1 = .ok v' w2 ∧ RepRes w.heap.size ok w2 v' (.fr 87 2 rs) ∧ Below w.heap.size w w2 := by
      by_cases hn : rs = []
      · subst hn
        have hz0 : n = 0 := hn0
        subst hz0
        refine ⟨_, w1, by rw [hv]; exact append_zero (P := Try.prog) (w := w1) (base := w.heap.size) (i := inf) Try.underlying65 hi (by rw [hsz]; exact hown) (some ad) cap, ?_, hb1⟩
        exact ⟨fun i hi => absurd hi (by simp), [], hown, fun i j hi => absurd hi (by simp)⟩
      · have hpos : 0 < rs.length := by
          cases rs with
          | nil => exact absurd rfl hn
          | cons x l => simp
        have hr1 : RepR w1 ok v (.sl rs) := RepR.mono (fun _ _ h => h) (fun b o hb => SameAt.of_block (hb1.block b (hok b o hb))) hr0
        obtain ⟨ad', cap', news, f1, f2, f3, f4, f5⟩ := flat_of hr1 hpos hc (by decide)
        obtain ⟨v', w2, g1, g2, g3, g4, g5⟩ := append_law (P := Try.prog) (w := w1) (base := w.heap.size) (ty := o6.type) (i := inf) (z := .agg #[.bool false, .string ⟨#[]⟩]) Try.underlying65 hi hz (by rw [hsz]; rfl) (by omega) (v := .slice (some ⟨w.heap.size, 0, none⟩) 0 0) (n := 0) (xs := []) (by rw [hsz]; exact hown)
          (ad := ad') (m := rs.length) (c := cap') (news := news) (by rw [hsz]; exact f2) f3 f4 hpos (by unfold maxLen; omega) (by rw [hby]; omega) hb1.size
        have hb2 : Below w.heap.size w1 w2 := ⟨g3.os, g3.tape, g3.output, g3.size, fun k hk => g3.block k (by have := hb1.size; omega) (fun e => by simp [Value.ownBlock] at e; omega)⟩
        refine ⟨v', w2, by rw [f1]; exact g1, ⟨hc, news, ?_, fun i j hi' hj => ⟨?_, (f5 i j hi' hj).2⟩⟩, hb1.trans hb2⟩
        · rw [hsz] at g2
          simpa using g2
        · refine RepR.mono (fun b o hb => .inl ⟨hok b o hb, hb⟩) (fun b o hb => SameAt.of_block (hb2.block b (hok b o hb))) (f5 i j hi' hj).1
    refine ops_cons (l := [3]) q9 q10 (wp_value (v := v') (w' := w2) (by simp [execOp, q11, resolve, invoke, builtin, v5, v6, hrun]) ?_)
    rw [q12]
    refine ops_cons (l := []) q13 q14 (wp_value (v := v') (w' := w2) (by simp only [execOp, q15, Act.eval]; rw [Act.put_get (by omega), if_pos rfl]; rfl) ?_)
    rw [q16]
    refine wp_ret ?_
    refine fin _ w2 (by simp only [Act.put_defers]; exact da2) ?_ hbel
    rw [Act.put_get (by simp only [Act.put_size]; omega), if_pos rfl]
    exact hres
end Go.Bv
