/- BY VALUE, chapter 26: the pieces of RecordOf's code. -/
import Derived.Test.YtnfmilnlekmjgaaProg
import Derived.Test.YtnfmilnlekmjgaaC26F
import Derived.Test.YtnfmilnlekmjgaaW1
import Derived.Test.YtnfmilnlekmjgaaC26I
namespace Go.Bv
open Go.Proofs
def sq1 : Code → Code
  | .seq a _ => a
  | c => c
def sq2 : Code → Code
  | .seq _ b => b
  | c => c
def un : Code → Code
  | .block _ a => a
  | .loop a => a
  | c => c
def opsOf : Code → Array Oper
  | .region _ ops _ => ops
  | _ => #[]
noncomputable def B23 : Code := Try.f23.body.getD .skip
noncomputable def A0 : Code := sq1 B23
noncomputable def A1 : Code := sq1 (sq2 B23)
noncomputable def R4c : Code := sq1 (sq2 (sq2 B23))
noncomputable def D1 : Code := sq1 (sq2 (sq2 (sq2 B23)))
noncomputable def E1 : Code := sq2 (sq2 (sq2 (sq2 B23)))
noncomputable def R5c : Code := sq1 D1
noncomputable def LB : Code := un (un (sq2 D1))
noncomputable def R6c : Code := sq1 LB
noncomputable def CN : Code := sq1 (sq2 LB)
noncomputable def X1 : Code := un (sq1 (sq2 (sq2 LB)))
noncomputable def R12c : Code := sq2 (sq2 (sq2 LB))
noncomputable def R7c : Code := sq1 X1
noncomputable def R8c : Code := sq1 (sq2 X1)
noncomputable def CN2 : Code := sq1 (sq2 (sq2 X1))
noncomputable def R11c : Code := sq2 (sq2 (sq2 X1))
noncomputable def R13c : Code := sq1 E1
theorem B23_eq : Try.f23.body = some (.seq A0 (.seq A1 (.seq R4c (.seq (.seq R5c (.block 0 (.loop (.seq R6c (.seq CN (.seq (.block 1 (.seq R7c (.seq R8c (.seq CN2 R11c)))) R12c)))))) (.seq R13c .ret))))) := by kernel_rfl
def kA0 : C := (.reg [] [⟨(some 2), (.box 24 (.t 0)), none⟩, ⟨(some 4), (.mv (.c (.str (bs [])))), none⟩, ⟨(some 5), (.mv (.c (.int .i64 0))), none⟩, ⟨(some 6), (.mv (.c (.int .i64 0))), none⟩])
theorem compA0 : compC Try.prog A0 = some kA0 := by kernel_rfl
def kA1 : C := (.seq (.reg [14, 21, 23] [⟨(some 13), (.ld (some 2) (.t 2)), none⟩, ⟨(some 14), (.call 76 [(.t 13)]), none⟩, ⟨(some 15), (.mv (.t 1)), none⟩, ⟨(some 16), (.len (.t 15)), none⟩, ⟨(some 17), (.fa 1 1 (.t 2)), none⟩, ⟨(some 18), (.ld none (.t 17)), none⟩, ⟨(some 19), (.len (.t 18)), none⟩, ⟨(some 20), (.bin .neq (.t 16) (.t 19)), none⟩, ⟨(some 21), (.call 81 [(.t 20), (.c (.int .i64 37))]), none⟩, ⟨(some 22), (.lit 27 1 [(.t 14), (.t 21)]), none⟩, ⟨(some 23), (.call 80 [(.t 22)]), none⟩, ⟨(some 7), (.mv (.t 23)), none⟩]) (.seq (.reg [] [⟨(some 24), (.mv (.t 7)), none⟩, ⟨(some 25), (.bin .neq (.t 24) (.c (.int .i64 0))), none⟩]) (.cond (.t 25) (.seq (.reg [] [⟨(some 26), (.mv (.t 7)), none⟩, ⟨(some 4), (.mv (.c (.str (bs [])))), none⟩, ⟨(some 5), (.mv (.c (.int .i64 0))), none⟩, ⟨(some 6), (.mv (.t 26)), none⟩]) .ret) .skip)))
theorem compA1 : compC Try.prog A1 = some kA1 := by kernel_rfl
def kR5c : C := (.reg [] [⟨(some 27), (.mv (.t 1)), none⟩, ⟨(some 28), (.len (.t 27)), none⟩, ⟨(some 29), (.mv (.c (.int .i64 0))), none⟩])
theorem compR5c : compC Try.prog R5c = some kR5c := by kernel_rfl
def kR6c : C := (.reg [] [⟨(some 30), (.bin .lss (.t 29) (.t 28)), none⟩])
theorem compR6c : compC Try.prog R6c = some kR6c := by kernel_rfl
def kCN : C := (.cond (.t 30) .skip (.exit 0))
theorem compCN : compC Try.prog CN = some kCN := by kernel_rfl
def kR7c : C := (.reg [] [⟨(some 31), (.mv (.t 29)), none⟩, ⟨(some 32), (.ia 2 (.t 27) (.t 29)), none⟩, ⟨(some 33), (.ld (some 2) (.t 32)), none⟩, ⟨(some 10), (.new 40 [(.int .i64 0), (.str (bs []))]), none⟩, ⟨(some 9), (.mv (.t 31)), none⟩, ⟨none, (.st 2 (.t 10) (.t 33)), none⟩])
theorem compR7c : compC Try.prog R7c = some kR7c := by kernel_rfl
def kR8c : C := (.reg [42] [⟨(some 35), (.fa 1 1 (.t 2)), none⟩, ⟨(some 36), (.ld none (.t 35)), none⟩, ⟨(some 37), (.mv (.t 9)), none⟩, ⟨(some 38), (.ia 4 (.t 36) (.t 37)), none⟩, ⟨(some 39), (.fa 1 3 (.t 38)), none⟩, ⟨(some 40), (.ld (some 3) (.t 39)), none⟩, ⟨(some 41), (.ld (some 2) (.t 10)), none⟩, ⟨(some 42), (.call 82 [(.t 40), (.t 41)]), none⟩, ⟨(some 34), (.mv (.t 42)), none⟩, ⟨(some 43), (.ext (.t 34) 0), none⟩, ⟨(some 44), (.ext (.t 34) 1), none⟩, ⟨(some 11), (.mv (.t 43)), none⟩, ⟨(some 12), (.mv (.t 44)), none⟩])
theorem compR8c : compC Try.prog R8c = some kR8c := by kernel_rfl
def kCN2 : C := (.seq (.reg [] [⟨(some 45), (.mv (.t 12)), none⟩, ⟨(some 46), (.bin .neq (.t 45) (.c (.int .i64 0))), none⟩]) (.cond (.t 46) (.seq (.reg [] [⟨(some 47), (.mv (.t 9)), none⟩, ⟨(some 48), (.mv (.t 12)), none⟩, ⟨(some 4), (.mv (.c (.str (bs [])))), none⟩, ⟨(some 5), (.mv (.t 47)), none⟩, ⟨(some 6), (.mv (.t 48)), none⟩]) .ret) .skip))
theorem compCN2 : compC Try.prog CN2 = some kCN2 := by kernel_rfl
def kR12c : C := (.reg [] [⟨(some 51), (.bin .add (.t 29) (.c (.int .i64 1))), none⟩, ⟨(some 29), (.mv (.t 51)), none⟩])
theorem compR12c : compC Try.prog R12c = some kR12c := by kernel_rfl

theorem R4c_eq : R4c = .region 4 (opsOf R4c) false := by kernel_rfl
theorem R4c_size : (opsOf R4c).size = 1 := by kernel_rfl
theorem R4c_0 : ∃ o, (opsOf R4c)[0]? = some o ∧ o.guard = none ∧ o.op = .alloc 149 ∧ o.dst = some 8 := ⟨(opsOf R4c)[0]?.getD ⟨none, .ready 0, 0, "", #[], none⟩, by kernel_rfl, by kernel_rfl, by kernel_rfl, by kernel_rfl⟩
theorem R11c_eq : R11c = .region 11 (opsOf R11c) false := by kernel_rfl
theorem R11c_size : (opsOf R11c).size = 2 := by kernel_rfl
theorem R11c_0 : ∃ o, (opsOf R11c)[0]? = some o ∧ o.guard = none ∧ o.op = .move (.tmp 11) ∧ o.dst = some 49 := ⟨(opsOf R11c)[0]?.getD ⟨none, .ready 0, 0, "", #[], none⟩, by kernel_rfl, by kernel_rfl, by kernel_rfl, by kernel_rfl⟩
theorem R11c_1 : ∃ o, (opsOf R11c)[1]? = some o ∧ o.guard = none ∧ o.op = .call { callee := .value (.func 83), args := #[.tmp 8, .tmp 49], argTypes := #[149, 9] } ∧ o.dst = some 50 := ⟨(opsOf R11c)[1]?.getD ⟨none, .ready 0, 0, "", #[], none⟩, by kernel_rfl, by kernel_rfl, by kernel_rfl, by kernel_rfl⟩
theorem R13c_eq : R13c = .region 13 (opsOf R13c) false := by kernel_rfl
theorem R13c_size : (opsOf R13c).size = 4 := by kernel_rfl
theorem R13c_0 : ∃ o, (opsOf R13c)[0]? = some o ∧ o.guard = none ∧ o.op = .call { callee := .value (.func 84), args := #[.tmp 8], argTypes := #[149] } ∧ o.dst = some 52 := ⟨(opsOf R13c)[0]?.getD ⟨none, .ready 0, 0, "", #[], none⟩, by kernel_rfl, by kernel_rfl, by kernel_rfl, by kernel_rfl⟩
theorem R13c_1 : ∃ o, (opsOf R13c)[1]? = some o ∧ o.guard = none ∧ o.op = .assign (.tmp 52) ∧ o.dst = some 4 := ⟨(opsOf R13c)[1]?.getD ⟨none, .ready 0, 0, "", #[], none⟩, by kernel_rfl, by kernel_rfl, by kernel_rfl, by kernel_rfl⟩
theorem R13c_2 : ∃ o, (opsOf R13c)[2]? = some o ∧ o.guard = none ∧ o.op = .assign (.const (.int .i64 0)) ∧ o.dst = some 5 := ⟨(opsOf R13c)[2]?.getD ⟨none, .ready 0, 0, "", #[], none⟩, by kernel_rfl, by kernel_rfl, by kernel_rfl, by kernel_rfl⟩
theorem R13c_3 : ∃ o, (opsOf R13c)[3]? = some o ∧ o.guard = none ∧ o.op = .assign (.const (.int .i64 0)) ∧ o.dst = some 6 := ⟨(opsOf R13c)[3]?.getD ⟨none, .ready 0, 0, "", #[], none⟩, by kernel_rfl, by kernel_rfl, by kernel_rfl, by kernel_rfl⟩
end Go.Bv

/- BY VALUE, chapter 26: RecordOf at one field and one value: its code in pieces; the builder is kept by its own contract, all else by the evaluator. -/
set_option linter.unusedSimpArgs false
set_option linter.unusedVariables false
namespace Go.Bv
attribute [local congr] ite_congr congr_bindOps congr_bindC congr_andThen congr_orNone congr_onBool congr_onEff congr_headC
set_option maxRecDepth 100000
set_option maxHeartbeats 40000000
open Go.Proofs Go.RowKit
theorem evA (name : ByteArray) (f : Fd) (v : Val) (hsh : Short name [f]) (hfmt : (checkFormat name [f]).2 = 0) :
    ∃ eA, evalC (run T SN) L0 (.seq kA0 kA1) ⟨.agg [.str name, .sl [encF f]] :: .sl [encV v] :: List.replicate 51 .unk, List.replicate 53 ⟨0, .dead⟩⟩ = some (.normal, eA) ∧
      eA.tmps.length = 53 ∧ eA.tmps.getD 1 .unk = .sl [encV v] ∧ eA.tmps.getD 2 .unk = .ptr 2 1 0 ∧ eA.ok? 2 1 = some (.box [.str name, .sl [encF f]]) := by
  have h76 := run76 (S := SN) name [f] hsh
  rw [hfmt] at h76
  simp only [List.map_cons, List.map_nil] at h76
  have c0 : cond false 37 = 0 := rfl
  have f0 : first [0, 0] = 0 := rfl
  refine ⟨?eA, evalC_of ?h1, ?h2, ?h3, ?h4, ?h5⟩




  case h1 =>
    simp (config := {decide := true, contextual := true, maxSteps := 3000000}) only [kA0, kA1, h76, run81, run80_2, c0, f0, List.replicate, ↓simPre, simPost, Bool.not_not, Bool.not_false, Bool.not_true, Bool.false_eq_true, reduceCtorEq, ↓reduceIte, decide_true, decide_false, splice, results, resT, resTs, AV.key, Bool.and_true, Bool.true_and, and_true, true_and, and_self, List.flatMap_nil, List.flatMap_cons, List.append_nil, List.nil_append, List.cons_append, List.map_cons, List.map_nil, List.all_cons, List.all_nil, List.length_cons, List.length_nil, Nat.reduceAdd, Nat.reduceLT, Nat.reduceLeDiff, Nat.reduceEqDiff, Nat.reduceSub, Nat.zero_add, Nat.add_zero, List.drop_succ_cons, List.drop_zero, List.take_succ_cons, List.take_zero]
    rfl
  all_goals rfl
abbrev ts0 (name : ByteArray) (f : Fd) (v : Val) (p : Value) : List AV := [.unk, .sl [encV v], .el [.str name, .sl [encF f]]] ++ List.replicate 5 .unk ++ [.raw p] ++ List.replicate 44 .unk
theorem evB (name : ByteArray) (f : Fd) (v : Val) (p : Value) (s : ByteArray) (hE : run T SN 82 [.agg (encT f.t), .agg (encV v)] = some (.tup [.str s, .int .i64 0])) :
    ∃ e5 e6 e9, evalC (run T SN) L0 kR5c ⟨ts0 name f v p, List.replicate 53 ⟨0, .dead⟩⟩ = some (.normal, e5) ∧ evalC (run T SN) L0 (.seq kR6c kCN) e5 = some (.normal, e6) ∧ evalC (run T SN) L0 (.seq kR7c (.seq kR8c kCN2)) e6 = some (.normal, e9) ∧
      e9.tmps.length = 53 ∧ e9.tmps.getD 8 .unk = .raw p ∧ e9.tmps.getD 11 .unk = .str s ∧ e9.tmps.getD 28 .unk = .int .i64 1 ∧ e9.tmps.getD 29 .unk = .int .i64 0 := by
  simp only [encT, encV] at hE
  simp only [ts0, encF, encV]
  refine ⟨?e5, ?e6, ?e9, evalC_of ?h1, evalC_of ?h2, evalC_of ?h3, ?f1, ?f2, ?f3, ?f4, ?f5⟩
  case h1 =>
    simp (config := {decide := true, contextual := true, maxSteps := 3000000}) only [kR5c, List.replicate, ↓simPre, simPost, Bool.not_not, Bool.not_false, Bool.not_true, Bool.false_eq_true, reduceCtorEq, ↓reduceIte, decide_true, decide_false, splice, results, resT, resTs, AV.key, Bool.and_true, Bool.true_and, and_true, true_and, and_self, List.flatMap_nil, List.flatMap_cons, List.append_nil, List.nil_append, List.cons_append, List.map_cons, List.map_nil, List.all_cons, List.all_nil, List.length_cons, List.length_nil, Nat.reduceAdd, Nat.reduceLT, Nat.reduceLeDiff, Nat.reduceEqDiff, Nat.reduceSub, Nat.zero_add, Nat.add_zero, List.drop_succ_cons, List.drop_zero, List.take_succ_cons, List.take_zero]
    rfl
  case h2 =>
    simp (config := {decide := true, contextual := true, maxSteps := 3000000}) only [kR6c, kCN, List.replicate, ↓simPre, simPost, Bool.not_not, Bool.not_false, Bool.not_true, Bool.false_eq_true, reduceCtorEq, ↓reduceIte, decide_true, decide_false, splice, results, resT, resTs, AV.key, Bool.and_true, Bool.true_and, and_true, true_and, and_self, List.flatMap_nil, List.flatMap_cons, List.append_nil, List.nil_append, List.cons_append, List.map_cons, List.map_nil, List.all_cons, List.all_nil, List.length_cons, List.length_nil, Nat.reduceAdd, Nat.reduceLT, Nat.reduceLeDiff, Nat.reduceEqDiff, Nat.reduceSub, Nat.zero_add, Nat.add_zero, List.drop_succ_cons, List.drop_zero, List.take_succ_cons, List.take_zero]
    rfl
  case h3 =>
    simp (config := {decide := true, contextual := true, maxSteps := 3000000}) only [kR7c, kR8c, kCN2, hE, List.getD_cons_zero, List.replicate, ↓simPre, simPost, Bool.not_not, Bool.not_false, Bool.not_true, Bool.false_eq_true, reduceCtorEq, ↓reduceIte, decide_true, decide_false, splice, results, resT, resTs, AV.key, Bool.and_true, Bool.true_and, and_true, true_and, and_self, List.flatMap_nil, List.flatMap_cons, List.append_nil, List.nil_append, List.cons_append, List.map_cons, List.map_nil, List.all_cons, List.all_nil, List.length_cons, List.length_nil, Nat.reduceAdd, Nat.reduceLT, Nat.reduceLeDiff, Nat.reduceEqDiff, Nat.reduceSub, Nat.zero_add, Nat.add_zero, List.drop_succ_cons, List.drop_zero, List.take_succ_cons, List.take_zero]
    rfl
  all_goals rfl
abbrev ts1 (p : Value) : List AV := List.replicate 8 .unk ++ [.raw p] ++ List.replicate 19 .unk ++ [.int .i64 1, .int .i64 0] ++ List.replicate 23 .unk
theorem evC (p : Value) :
    ∃ e2 e3, evalC (run T SN) L0 kR12c ⟨ts1 p, List.replicate 53 ⟨0, .dead⟩⟩ = some (.normal, e2) ∧ evalC (run T SN) L0 (.seq kR6c kCN) e2 = some (.exit 0, e3) ∧ e3.tmps.length = 53 ∧ e3.tmps.getD 8 .unk = .raw p := by
  have w : IntKind.wrap .i64 ((0 : Int) + 1) = 1 := rfl
  simp only [ts1]
  refine ⟨?e2, ?e3, evalC_of ?h1, evalC_of ?h2, ?f1, ?f2⟩
  case h1 =>
    simp (config := {decide := true, contextual := true, maxSteps := 3000000}) only [kR12c, w, List.replicate, ↓simPre, simPost, Bool.not_not, Bool.not_false, Bool.not_true, Bool.false_eq_true, reduceCtorEq, ↓reduceIte, decide_true, decide_false, splice, results, resT, resTs, AV.key, Bool.and_true, Bool.true_and, and_true, true_and, and_self, List.flatMap_nil, List.flatMap_cons, List.append_nil, List.nil_append, List.cons_append, List.map_cons, List.map_nil, List.all_cons, List.all_nil, List.length_cons, List.length_nil, Nat.reduceAdd, Nat.reduceLT, Nat.reduceLeDiff, Nat.reduceEqDiff, Nat.reduceSub, Nat.zero_add, Nat.add_zero, List.drop_succ_cons, List.drop_zero, List.take_succ_cons, List.take_zero]
    rfl
  case h2 =>
    simp (config := {decide := true, contextual := true, maxSteps := 3000000}) only [kR6c, kCN, List.replicate, ↓simPre, simPost, Bool.not_not, Bool.not_false, Bool.not_true, Bool.false_eq_true, reduceCtorEq, ↓reduceIte, decide_true, decide_false, splice, results, resT, resTs, AV.key, Bool.and_true, Bool.true_and, and_true, true_and, and_self, List.flatMap_nil, List.flatMap_cons, List.append_nil, List.nil_append, List.cons_append, List.map_cons, List.map_nil, List.all_cons, List.all_nil, List.length_cons, List.length_nil, Nat.reduceAdd, Nat.reduceLT, Nat.reduceLeDiff, Nat.reduceEqDiff, Nat.reduceSub, Nat.zero_add, Nat.add_zero, List.drop_succ_cons, List.drop_zero, List.take_succ_cons, List.take_zero]
    rfl
  all_goals rfl
theorem ts0_get (name : ByteArray) (f : Fd) (v : Val) (p : Value) (t : Nat) : (ts0 name f v p).getD t .unk = if 8 = t then .raw p else if 2 = t then .el [.str name, .sl [encF f]] else if 1 = t then .sl [encV v] else .unk := by
  have e : ts0 name f v p = (((List.replicate 53 AV.unk).set 1 (.sl [encV v])).set 2 (.el [.str name, .sl [encF f]])).set 8 (.raw p) := rfl
  rw [e, getD_set_if (by simp), getD_set_if (by simp), getD_set_if (by simp), rep_get]
theorem ts1_get (p : Value) (t : Nat) : (ts1 p).getD t .unk = if 8 = t then .raw p else if 29 = t then .int .i64 0 else if 28 = t then .int .i64 1 else .unk := by
  have e : ts1 p = (((List.replicate 53 AV.unk).set 28 (.int .i64 1)).set 29 (.int .i64 0)).set 8 (.raw p) := rfl
  rw [e, getD_set_if (by simp), getD_set_if (by simp), getD_set_if (by simp), rep_get]
theorem fresh_run {a : Act} {w : World} {o : Oper} (ho : o.op = .alloc 149) : (execOp a.eval o).run Try.prog w = .ok (.value (.pointer (some ⟨w.heap.size, 0, none⟩))) (w.alloc (.cells #[.pointer none, .slice none 0 0] 149)) := by
  simp [execOp, ho, Instr.alloc, Try.zeroValue149, newVar, newRow, Value.cells]
theorem bld_below {T e : TypeId} {B b : Nat} {bs : List Value} {W W' : World} (h : Lib.IsBuilderF T e B b bs W) (hb : Below W.heap.size W W') : Lib.IsBuilderF T e B b bs W' := by
  have key : ∀ p, Lib.BuilderAtF T e B b p bs W → Lib.BuilderAtF T e B b p bs W' := by
    intro p h
    have hlt := h.lt
    obtain ⟨hB, v, hbk, hown, hne⟩ := h
    refine ⟨hB, v, (hb.block b hlt).trans hbk, ⟨hown.1, ?_⟩, hne⟩
    rcases hown.2 with hz | ⟨g, cap, cur, fz, hv, hbg, hg, r⟩
    · exact .inl hz
    · have hgl : g < W.heap.size := by
        rcases Nat.lt_or_ge g W.heap.size with h' | h'
        · exact h'
        · simp [Array.getElem?_eq_none h'] at hg
      exact .inr ⟨g, cap, cur, fz, hv, hbg, (hb.block g hgl).trans hg, r⟩
  exact h.elim (fun x => .inl (key _ x)) (fun x => .inr (key _ x))
theorem rec1 (name : ByteArray) (f : Fd) (v : Val) (s : ByteArray) (hsh : Short name [f]) (hfmt : (checkFormat name [f]).2 = 0)
    (hE : run T SN 82 [.agg (encT f.t), .agg (encV v)] = some (.tup [.str s, .int .i64 0])) (hs : s.size ≤ 1000000) :
    VSpec Try.prog 23 [.agg [.str name, .sl [encF f]], .sl [encV v]] (.tup [.str s, .int .i64 0, .int .i64 0]) := by
  intro w vs ok hok hl hr
  refine calls_of_wp Try.func23 B23_eq ?_
  have hst := Rel.start (np := 2) (nt := 53) (rs := []) (k := .skip) hok hl (by simp) hr
  obtain ⟨eA, hA, a1, a2, a3, a4⟩ := evA name f v hsh hfmt
  refine sim2 mixed RN compA0 compA1 hst hA (fun aa wa Ga hRa => ?_)
  show (Code.seq R4c _).wp _ _ aa wa
  have s53 : aa.tmps.size = 53 := hRa.size.trans a1
  have t1 := hRa.tmps 1 (by omega)
  rw [a2] at t1
  have t2 := hRa.tmps 2 (by omega)
  rw [a3] at t2
  obtain ⟨hd2, _, hbox⟩ := t2
  obtain ⟨b2, hsv, hv2⟩ := hbox _ a4
  obtain ⟨_, _, hk⟩ := Env.ok?_eq a4
  have hob := hRa.objs 2 hd2
  rw [hk] at hob
  obtain ⟨b2', vs2, T2, q1, q2, q3, q4, q5, q6⟩ := hob
  rw [hsv] at q1
  obtain rfl : b2 = b2' := by simpa using q1
  have hb2 : b2 < wa.heap.size := by
    rcases Nat.lt_or_ge b2 wa.heap.size with h' | h'
    · exact h'
    · simp [Array.getElem?_eq_none h'] at q3
  have hel : RepR wa (fun k o => Ga.ok k o ∨ k = b2) (.pointer (some ⟨b2, 0, none⟩)) (.el [.str name, .sl [encF f]]) := by
    refine .el b2 0 _ (fun j => vs2.getD j undef) (fun j hj => ⟨.inr rfl, ?_⟩) (fun j hj => ?_) (fun j hj => ?_)
    · have hj' : j < vs2.size := by rw [q4]; exact hj
      simp [World.cell?, q3, hj', Array.getD_eq_getD_getElem?]
    · match j, hj with
      | 0, _ => rfl
      | 1, _ => rfl
    · have h5 := (q5 j hj).1
      match j, hj, h5 with
      | 0, _, h5 => exact RepR.mono (fun _ _ h => .inl h) (fun _ _ _ => SameAt.refl) h5
      | 1, _, h5 => exact RepR.mono (fun _ _ h => .inl h) (fun _ _ _ => SameAt.refl) h5
  refine wp_seq (wp_reg R4c_eq R4c_size ?_)
  obtain ⟨o, ho1, ho2, ho3, ho4⟩ := R4c_0
  refine ops_cons (l := []) ho1 ho2 (wp_value (fresh_run ho3) ?_)
  rw [ho4]
  generalize hwB : wa.alloc (.cells #[.pointer none, .slice none 0 0] 149) = wB
  have hbB : Below wa.heap.size wa wB := by rw [← hwB]; exact (Below.refl _ _).alloc (Nat.le_refl _) _
  have hszB := hbB.size
  have hbld : Lib.IsBuilderF 149 5 wa.heap.size wa.heap.size [] wB := by rw [← hwB]; exact Lib.IsBuilderF.of (Lib.fresh_isBuilder 149 5 wa)
  obtain ⟨e5, e6, e9, h5, h6, h9, g1, g2, g3, g4, g5⟩ := evB name f v (.pointer (some ⟨wa.heap.size, 0, none⟩)) s hE
  have rel0 : Rel wB.heap.size wB (fun k o => Ga.ok k o ∨ k = b2) ⟨ts0 name f v (.pointer (some ⟨wa.heap.size, 0, none⟩)), List.replicate 53 ⟨0, .dead⟩⟩ (aa.put (some 8) (.pointer (some ⟨wa.heap.size, 0, none⟩))) wB ⟨fun _ => undef, fun k o => Ga.ok k o ∨ k = b2⟩ := by
    refine Rel.bare (ts := ts0 name f v (.pointer (some ⟨wa.heap.size, 0, none⟩))) (by rw [Act.put_size, s53]; rfl) (by rw [Act.put_defers]; exact hRa.defers) (fun k o hk => ?_) (fun t ht => ?_)
    · rcases hk with hk | rfl
      · have := hRa.okb k o hk; omega
      · omega
    · rw [ts0_get, Act.put_get (by omega)]
      have hc : ∀ k o, (Ga.ok k o ∨ k = b2) → SameAt wa wB k o := fun k o hk => SameAt.of_block (hbB.block k (by
        rcases hk with hk | rfl
        · exact hRa.okb k o hk
        · exact hb2))
      by_cases c8 : 8 = t
      · rw [if_pos c8, if_pos c8]; exact .raw _
      rw [if_neg c8, if_neg c8]
      by_cases c2 : 2 = t
      · rw [if_pos c2, ← c2, hv2]; exact RepR.mono (fun _ _ h => h) hc hel
      rw [if_neg c2]
      by_cases c1 : 1 = t
      · rw [if_pos c1, ← c1]; exact RepR.mono (fun _ _ h => .inl h) (fun k o hk => hc k o (.inl hk)) t1
      rw [if_neg c1]
      exact .unk _
  show (Code.seq (Code.seq R5c _) _).wp _ _ _ wB
  refine wp_seq ?_
  refine sim1 mixed RN compR5c rel0 h5 (fun a5 w5 G5 r5 => ?_)
  show (Code.block 0 _).wp _ _ a5 w5
  refine wp_block (wp_loop_rounds 2 ?_)
  rw [rounds_succ]
  refine sim2 mixed RN compR6c compCN r5 h6 (fun a6 w6 G6 r6 => ?_)
  show (Code.seq (Code.block 1 _) R12c).wp _ _ a6 w6
  refine wp_seq (wp_block ?_)
  refine sim3 mixed RN compR7c compR8c compCN2 r6 h9 (fun a9 w9 G9 r9 => ?_)
  show R11c.wp _ _ a9 w9
  have s9 : a9.tmps.size = 53 := r9.size.trans g1
  have v8 : a9.tmps.getD 8 undef = .pointer (some ⟨wa.heap.size, 0, none⟩) := inv_raw (by have := r9.tmps 8 (by omega); rwa [g2] at this)
  have v11 : a9.tmps.getD 11 undef = .string s := inv_str (by have := r9.tmps 11 (by omega); rwa [g3] at this)
  have v28 : a9.tmps.getD 28 undef = .int .i64 1 := inv_int (by have := r9.tmps 28 (by omega); rwa [g4] at this)
  have v29 : a9.tmps.getD 29 undef = .int .i64 0 := inv_int (by have := r9.tmps 29 (by omega); rwa [g5] at this)
  have hb9 : Lib.IsBuilderF 149 5 wa.heap.size wa.heap.size [] w9 := bld_below hbld r9.below
  have hsz9 := r9.below.size
  refine wp_reg R11c_eq R11c_size ?_
  obtain ⟨o1, p1, p2, p3, p4⟩ := R11c_0
  obtain ⟨o2, p5, p6, p7, p8⟩ := R11c_1
  refine ops_cons (l := [1]) p1 p2 (wp_value (v := .string s) (w' := w9) (by simp [execOp, p3, Act.eval, v11]) ?_)
  rw [p4]
  refine ops_cons (l := []) p5 p6 (wp_call p7 rfl Try.func83 (by kernel_rfl) (by kernel_rfl) (vs := #[.pointer (some ⟨wa.heap.size, 0, none⟩), .string s]) ?_ (Try.write_k wa.heap.size wa.heap.size [] s w9 hb9 (by simp; omega) (by omega)) (fun en w10 hh => ?_))
  · have u8 : (a9.put (some 49) (.string s)).tmps.getD 8 undef = .pointer (some ⟨wa.heap.size, 0, none⟩) := by rw [Act.put_get (by omega), if_neg (by decide), v8]
    have u49 : (a9.put (some 49) (.string s)).tmps.getD 49 undef = .string s := by rw [Act.put_get (by omega), if_pos rfl]
    simp only [List.map_toArray, List.map_cons, List.map_nil, Act.eval, u8, u49]
  obtain ⟨rfl, hat, hbel, _⟩ := hh
  refine ⟨_, rfl, ?_⟩
  rw [p8]
  show R12c.wp _ _ _ w10
  obtain ⟨e2, e3, k2, k3, k4, k5⟩ := evC (.pointer (some ⟨wa.heap.size, 0, none⟩))
  generalize hrv : Value.tuple #[Value.int .i64 s.size, Value.nilIface] = rv
  have rel1 : Rel w10.heap.size w10 (fun _ _ => False) ⟨ts1 (.pointer (some ⟨wa.heap.size, 0, none⟩)), List.replicate 53 ⟨0, .dead⟩⟩ ((a9.put (some 49) (.string s)).put (some 50) rv) w10 ⟨fun _ => undef, fun _ _ => False⟩ := by
    refine Rel.bare (ts := ts1 (.pointer (some ⟨wa.heap.size, 0, none⟩))) (by rw [Act.put_size, Act.put_size, s9]; rfl) (by rw [Act.put_defers, Act.put_defers]; exact r9.defers) (fun k o hk => hk.elim) (fun t ht => ?_)
    rw [ts1_get, Act.put_get (by rw [Act.put_size]; omega), Act.put_get (by omega)]
    by_cases c8 : 8 = t
    · rw [if_pos c8, if_neg (by omega), if_neg (by omega), ← c8, v8]; exact .raw _
    rw [if_neg c8]
    by_cases c29 : 29 = t
    · rw [if_pos c29, if_neg (by omega), if_neg (by omega), ← c29, v29]; exact .int _ _
    rw [if_neg c29]
    by_cases c28 : 28 = t
    · rw [if_pos c28, if_neg (by omega), if_neg (by omega), ← c28, v28]; exact .int _ _
    rw [if_neg c28]
    exact .unk _
  refine sim0 mixed RN compR12c rel1 k2 (fun a11 w11 G11 r11 => ?_)
  show Code.rounds _ _ _ 1 a11 w11
  rw [rounds_succ]
  refine sim2 mixed RN compR6c compCN r11 k3 (fun a12 w12 G12 r12 => ?_)
  show (Code.seq R13c .ret).wp _ _ a12 w12
  have s12 : a12.tmps.size = 53 := r12.size.trans k4
  have v8' : a12.tmps.getD 8 undef = .pointer (some ⟨wa.heap.size, 0, none⟩) := inv_raw (by have := r12.tmps 8 (by omega); rwa [k5] at this)
  have hb12 : Lib.IsBuilderF 149 5 wa.heap.size wa.heap.size (Lib.byteCells s.data.toList) w12 := bld_below (W := w10) (.inr (by simpa [Lib.strCells_eq] using hat)) r12.below
  have hsz12 := r12.below.size
  have hsz10 := hbel.size
  refine wp_seq (wp_reg R13c_eq R13c_size ?_)
  obtain ⟨z0, y1, y2, y3, y4⟩ := R13c_0
  obtain ⟨z1, y5, y6, y7, y8⟩ := R13c_1
  obtain ⟨z2, y9, y10, y11, y12⟩ := R13c_2
  obtain ⟨z3, y13, y14, y15, y16⟩ := R13c_3
  refine ops_cons (l := [1, 2, 3]) y1 y2 (wp_call y3 rfl Try.func84 (by kernel_rfl) (by kernel_rfl) (vs := #[.pointer (some ⟨wa.heap.size, 0, none⟩)]) (by simp [Act.eval, v8']) (Try.Builder_String_any_k wa.heap.size wa.heap.size s.data.toList w12 hb12 (by omega)) (fun en w13 hh => ?_))
  obtain ⟨rfl, _, hbel13, _⟩ := hh
  refine ⟨_, rfl, ?_⟩
  rw [y4]
  have hstr : (⟨s.data.toList.toArray⟩ : ByteArray) = s := by cases s; simp
  rw [hstr]
  refine ops_cons (l := [2, 3]) y5 y6 (wp_value (v := .string s) (w' := w13) (by simp only [execOp, y7, Act.eval]; rw [Act.put_get (by omega), if_pos rfl]; rfl) ?_)
  rw [y8]
  refine ops_cons (l := [3]) y9 y10 (wp_value (v := .int .i64 0) (w' := w13) (by simp [execOp, y11, Act.eval]) ?_)
  rw [y12]
  refine ops_cons (l := []) y13 y14 (wp_value (v := .int .i64 0) (w' := w13) (by simp [execOp, y15, Act.eval]) ?_)
  rw [y16]
  refine wp_ret ?_
  refine ⟨by simp only [Act.put_defers]; exact r12.defers, .tuple #[.string s, .int .i64 0, .int .i64 0], ?_, _, rfl, ?_, ?_⟩
  · have hrs : Try.f23.results = #[.tmp 4, .tmp 5, .tmp 6] := by kernel_rfl
    have r4 : ((((a12.put (some 52) (.string s)).put (some 4) (.string s)).put (some 5) (.int .i64 0)).put (some 6) (.int .i64 0)).tmps.getD 4 undef = .string s := by
      rw [Act.put_get (by simp only [Act.put_size]; omega), if_neg (by decide), Act.put_get (by simp only [Act.put_size]; omega), if_neg (by decide), Act.put_get (by simp only [Act.put_size]; omega), if_pos rfl]
    have r5 : ((((a12.put (some 52) (.string s)).put (some 4) (.string s)).put (some 5) (.int .i64 0)).put (some 6) (.int .i64 0)).tmps.getD 5 undef = .int .i64 0 := by
      rw [Act.put_get (by simp only [Act.put_size]; omega), if_neg (by decide), Act.put_get (by simp only [Act.put_size]; omega), if_pos rfl]
    have r6 : ((((a12.put (some 52) (.string s)).put (some 4) (.string s)).put (some 5) (.int .i64 0)).put (some 6) (.int .i64 0)).tmps.getD 6 undef = .int .i64 0 := by
      rw [Act.put_get (by simp only [Act.put_size]; omega), if_pos rfl]
    generalize (((a12.put (some 52) (.string s)).put (some 4) (.string s)).put (some 5) (.int .i64 0)).put (some 6) (.int .i64 0) = az at r4 r5 r6
    have hres := results_run (P := Try.prog) (fn := Try.f23) (tmps := az.tmps) (w := w13) (v := fun r => match r with | .tmp t => az.tmps.getD t undef | _ => undef) (by
      rw [hrs]
      intro r hr'
      simp only [List.mem_cons, List.not_mem_nil, or_false] at hr'
      rcases hr' with rfl | rfl | rfl <;> rfl)
    have hfin : (Go.results Try.f23 az.tmps).run Try.prog w13 = .ok (.tuple #[az.tmps.getD 4 undef, az.tmps.getD 5 undef, az.tmps.getD 6 undef]) w13 := hres.trans rfl
    rw [r4, r5, r6] at hfin
    exact hfin
  · have b1 := hRa.below
    have hle := hRa.base_le
    exact ((((b1.trans (hbB.mono hle)).trans (r9.below.mono (by omega))).trans (hbel.mono hle)).trans (r12.below.mono (by omega))).trans (hbel13.mono hle)
  · show RepR w13 _ _ _
    refine .tup _ _ rfl (fun j hj => ?_)
    match j, hj with
    | 0, _ => exact .str _
    | 1, _ => exact .int _ _
    | 2, _ => exact .int _ _
end Go.Bv
