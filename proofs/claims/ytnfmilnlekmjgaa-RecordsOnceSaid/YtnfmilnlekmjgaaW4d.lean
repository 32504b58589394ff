/- BY VALUE: the pieces of function 28's code. Written by my own program (gen/pieces). -/
import Derived.Test.YtnfmilnlekmjgaaC26F
import Derived.Test.YtnfmilnlekmjgaaC26I
namespace Go.Bv.P28
open Go.Proofs
def sq1 : Code → Code
  | .seq a _ => a
  | c => c
def sq2 : Code → Code
  | .seq _ b => b
  | c => c
def un : Code → Code
  | .block _ a => a
  | .loop a => a
  | c => c
def opsOf : Code → Array Oper
  | .region _ ops _ => ops
  | _ => #[]
noncomputable def B : Code := Try.f28.body.getD .skip
noncomputable def A0 : Code := sq1 B
noncomputable def A1 : Code := sq1 (sq2 B)
noncomputable def H1 : Code := sq1 (sq2 (sq2 B))
noncomputable def D1 : Code := sq1 (sq2 (sq2 (sq2 B)))
noncomputable def E1 : Code := sq2 (sq2 (sq2 (sq2 B)))
noncomputable def R5 : Code := sq1 D1
noncomputable def LB : Code := un (un (sq2 D1))
noncomputable def R6 : Code := sq1 LB
noncomputable def CN : Code := sq1 (sq2 LB)
noncomputable def X1 : Code := un (sq1 (sq2 (sq2 LB)))
noncomputable def R12 : Code := sq2 (sq2 (sq2 LB))
noncomputable def R7 : Code := sq1 X1
noncomputable def R8 : Code := sq1 (sq2 X1)
noncomputable def CN2 : Code := sq1 (sq2 (sq2 X1))
noncomputable def H2 : Code := sq2 (sq2 (sq2 X1))
theorem B_eq : Try.f28.body = some (.seq A0 (.seq A1 (.seq H1 (.seq (.seq R5 (.block 0 (.loop (.seq R6 (.seq CN (.seq (.block 1 (.seq R7 (.seq R8 (.seq CN2 H2)))) R12)))))) E1)))) := by kernel_rfl
set_option maxRecDepth 100000
def kA0 : C := (.reg [] [⟨(some 1), (.box 52 (.t 0)), none⟩, ⟨(some 2), (.mv (.c (.int .i64 0))), none⟩, ⟨(some 3), (.mv (.c (.int .i64 0))), none⟩])
theorem compA0 : compC Try.prog A0 = some kA0 := by kernel_rfl
def kA1 : C := (.seq (.reg [14, 16, 19, 24, 26] [⟨(some 12), (.fa 0 1 (.t 1)), none⟩, ⟨(some 13), (.ld none (.t 12)), none⟩, ⟨(some 14), (.call 87 [(.t 13)]), none⟩, ⟨(some 15), (.un .not (.t 14)), none⟩, ⟨(some 16), (.call 81 [(.t 15), (.c (.int .i64 7))]), none⟩, ⟨(some 17), (.fa 1 2 (.t 1)), none⟩, ⟨(some 18), (.ld (some 2) (.t 17)), none⟩, ⟨(some 19), (.call 76 [(.t 18)]), none⟩, ⟨(some 20), (.fa 3 1 (.t 1)), none⟩, ⟨(some 21), (.ld none (.t 20)), none⟩, ⟨(some 22), (.len (.t 21)), none⟩, ⟨(some 23), (.bin .gtr (.t 22) (.c (.int .i64 4))), none⟩, ⟨(some 24), (.call 81 [(.t 23), (.c (.int .i64 2))]), none⟩, ⟨(some 25), (.lit 27 1 [(.t 16), (.t 19), (.t 24)]), none⟩, ⟨(some 26), (.call 80 [(.t 25)]), none⟩, ⟨(some 4), (.mv (.t 26)), none⟩]) (.seq (.reg [] [⟨(some 27), (.mv (.t 4)), none⟩, ⟨(some 28), (.bin .neq (.t 27) (.c (.int .i64 0))), none⟩]) (.cond (.t 28) (.seq (.reg [] [⟨(some 29), (.mv (.t 4)), none⟩, ⟨(some 2), (.mv (.c (.int .i64 0))), none⟩, ⟨(some 3), (.mv (.t 29)), none⟩]) .ret) .skip)))
theorem compA1 : compC Try.prog A1 = some kA1 := by kernel_rfl
def kR5 : C := (.reg [] [⟨(some 31), (.fa 3 1 (.t 1)), none⟩, ⟨(some 32), (.ld none (.t 31)), none⟩, ⟨(some 33), (.len (.t 32)), none⟩, ⟨(some 34), (.mv (.c (.int .i64 0))), none⟩])
theorem compR5 : compC Try.prog R5 = some kR5 := by kernel_rfl
def kR6 : C := (.reg [] [⟨(some 35), (.bin .lss (.t 34) (.t 33)), none⟩])
theorem compR6 : compC Try.prog R6 = some kR6 := by kernel_rfl
def kCN : C := (.cond (.t 35) .skip (.exit 0))
theorem compCN : compC Try.prog CN = some kCN := by kernel_rfl
def kR7 : C := (.reg [] [⟨(some 36), (.mv (.t 34)), none⟩, ⟨(some 37), (.ia 2 (.t 32) (.t 34)), none⟩, ⟨(some 38), (.ld (some 2) (.t 37)), none⟩, ⟨(some 7), (.new 165 [(.str (bs [])), (.bool false)]), none⟩, ⟨(some 6), (.mv (.t 36)), none⟩, ⟨none, (.st 2 (.t 7) (.t 38)), none⟩])
theorem compR7 : compC Try.prog R7 = some kR7 := by kernel_rfl
def kR8 : C := (.reg [] [⟨(some 40), (.fa 1 2 (.t 1)), none⟩, ⟨(some 41), (.ld (some 2) (.t 40)), none⟩, ⟨(some 42), (.fa 0 1 (.t 7)), none⟩, ⟨(some 43), (.ld none (.t 42)), none⟩, ⟨(some 44), (.call 88 [(.t 41), (.t 43)]), none⟩, ⟨(some 39), (.mv (.t 44)), none⟩, ⟨(some 45), (.ext (.t 39) 0), none⟩, ⟨(some 46), (.ext (.t 39) 1), none⟩, ⟨(some 47), (.ext (.t 39) 2), none⟩, ⟨(some 8), (.mv (.t 45)), none⟩, ⟨(some 9), (.mv (.t 46)), none⟩, ⟨(some 10), (.mv (.t 47)), none⟩])
theorem compR8 : compC Try.prog R8 = some kR8 := by kernel_rfl
def kCN2 : C := (.seq (.reg [50, 55, 57] [⟨(some 48), (.mv (.t 10)), none⟩, ⟨(some 49), (.un .not (.t 48)), none⟩, ⟨(some 50), (.call 81 [(.t 49), (.c (.int .i64 11))]), none⟩, ⟨(some 51), (.mv (.t 5)), none⟩, ⟨(some 52), (.fa 0 1 (.t 7)), none⟩, ⟨(some 53), (.ld none (.t 52)), none⟩, ⟨(some 54), (.lkp (.t 51) (.t 53)), none⟩, ⟨(some 55), (.call 81 [(.t 54), (.c (.int .i64 13))]), none⟩, ⟨(some 56), (.lit 27 1 [(.t 50), (.t 55)]), none⟩, ⟨(some 57), (.call 80 [(.t 56)]), none⟩, ⟨(some 11), (.mv (.t 57)), none⟩]) (.seq (.reg [] [⟨(some 58), (.mv (.t 11)), none⟩, ⟨(some 59), (.bin .neq (.t 58) (.c (.int .i64 0))), none⟩]) (.cond (.t 59) (.seq (.reg [] [⟨(some 60), (.mv (.t 6)), none⟩, ⟨(some 61), (.mv (.t 11)), none⟩, ⟨(some 2), (.mv (.t 60)), none⟩, ⟨(some 3), (.mv (.t 61)), none⟩]) .ret) .skip)))
theorem compCN2 : compC Try.prog CN2 = some kCN2 := by kernel_rfl
def kR12 : C := (.reg [] [⟨(some 65), (.bin .add (.t 34) (.c (.int .i64 1))), none⟩, ⟨(some 34), (.mv (.t 65)), none⟩])
theorem compR12 : compC Try.prog R12 = some kR12 := by kernel_rfl
def kE1 : C := (.seq (.reg [] [⟨(some 2), (.mv (.c (.int .i64 0))), none⟩, ⟨(some 3), (.mv (.c (.int .i64 0))), none⟩]) .ret)
theorem compE1 : compC Try.prog E1 = some kE1 := by kernel_rfl
theorem H1_eq : H1 = .region 4 (opsOf H1) false := by kernel_rfl
theorem H1_size : (opsOf H1).size = 2 := by kernel_rfl
theorem H1_0 : ∃ o, (opsOf H1)[0]? = some o ∧ o.guard = none ∧ o.op = .makeMap 163 none ∧ o.dst = some 30 := ⟨(opsOf H1)[0]?.getD ⟨none, .ready 0, 0, "", #[], none⟩, by kernel_rfl, by kernel_rfl, by kernel_rfl, by kernel_rfl⟩
theorem H1_1 : ∃ o, (opsOf H1)[1]? = some o ∧ o.guard = none ∧ o.op = .assign (.tmp 30) ∧ o.dst = some 5 := ⟨(opsOf H1)[1]?.getD ⟨none, .ready 0, 0, "", #[], none⟩, by kernel_rfl, by kernel_rfl, by kernel_rfl, by kernel_rfl⟩
theorem H2_eq : H2 = .region 12 (opsOf H2) false := by kernel_rfl
theorem H2_size : (opsOf H2).size = 4 := by kernel_rfl
theorem H2_0 : ∃ o, (opsOf H2)[0]? = some o ∧ o.guard = none ∧ o.op = .move (.tmp 5) ∧ o.dst = some 62 := ⟨(opsOf H2)[0]?.getD ⟨none, .ready 0, 0, "", #[], none⟩, by kernel_rfl, by kernel_rfl, by kernel_rfl, by kernel_rfl⟩
theorem H2_1 : ∃ o, (opsOf H2)[1]? = some o ∧ o.guard = none ∧ o.op = .fieldAddr 165 (.tmp 7) 0 ∧ o.dst = some 63 := ⟨(opsOf H2)[1]?.getD ⟨none, .ready 0, 0, "", #[], none⟩, by kernel_rfl, by kernel_rfl, by kernel_rfl, by kernel_rfl⟩
theorem H2_2 : ∃ o, (opsOf H2)[2]? = some o ∧ o.guard = none ∧ o.op = .load 9 (.tmp 63) ∧ o.dst = some 64 := ⟨(opsOf H2)[2]?.getD ⟨none, .ready 0, 0, "", #[], none⟩, by kernel_rfl, by kernel_rfl, by kernel_rfl, by kernel_rfl⟩
theorem H2_3 : ∃ o, (opsOf H2)[3]? = some o ∧ o.guard = none ∧ o.op = .mapUpdate 163 (.tmp 62) (.tmp 64) (.const (.bool true)) ∧ o.dst = none := ⟨(opsOf H2)[3]?.getD ⟨none, .ready 0, 0, "", #[], none⟩, by kernel_rfl, by kernel_rfl, by kernel_rfl, by kernel_rfl⟩
end Go.Bv.P28

/- BY VALUE, chapter 26: CheckFile: what its pieces do. -/
set_option linter.unusedSimpArgs false
set_option linter.unusedVariables false
namespace Go.Bv
attribute [local congr] ite_congr congr_bindOps congr_bindC congr_andThen congr_orNone congr_onBool congr_onEff congr_headC
set_option maxRecDepth 100000
set_option maxHeartbeats 40000000
open Go.Proofs P28
def ent (k : ByteArray × Bool) : List AV := [.str k.1, .bool true]
def keyErr (l : List Fd) (seen : List (ByteArray × Bool)) (k : ByteArray × Bool) : Int := first [cond (!(atFrom l k.1 0 0).2.2) 11, cond (mapHas (seen.map ent) k.1) 13]
def keysGo (l : List Fd) : List (ByteArray × Bool) → List (ByteArray × Bool) → Int → Int × Int
  | _, [], _ => (0, 0)
  | seen, k :: r, i => if (keyErr l seen k != 0) = true then (i, keyErr l seen k) else keysGo l (seen ++ [k]) r (i + 1)
def fileE (fn n : ByteArray) (l : List Fd) (ks : List (ByteArray × Bool)) : Int := first [cond (!isName fn) 7, (checkFormat n l).2, cond (decide ((ks.length : Int) > 4)) 2]
/-- An index and the error of a file. -/
def checkFile (fn n : ByteArray) (l : List Fd) (ks : List (ByteArray × Bool)) : Int × Int := if (fileE fn n l ks != 0) = true then (0, fileE fn n l ks) else keysGo l [] ks 0
abbrev fileC (fn n : ByteArray) (l : List Fd) (ks : List (ByteArray × Bool)) (u : Bool) : List AV := [.str fn, .str n, .sl (l.map encF), .sl (ks.map encK), .bool u]
theorem evA_err (fn n : ByteArray) (l : List Fd) (ks : List (ByteArray × Bool)) (u : Bool) (hn : fn.size ≤ 1000000) (hsh : Short n l) (he : (fileE fn n l ks != 0) = true) :
    ∃ eR, evalC (run T SN) L0 (.seq kA0 kA1) ⟨.agg (fileC fn n l ks u) :: List.replicate 65 .unk, List.replicate 66 ⟨0, .dead⟩⟩ = some (.ret, eR) ∧
      eR.tmps.length = 66 ∧ eR.tmps.getD 2 .unk = .int .i64 0 ∧ eR.tmps.getD 3 .unk = .int .i64 (fileE fn n l ks) := by
  have h87 := run87 (S := SN) (T := T) T87 fn (by omega)
  have h76 := run76 (S := SN) n l hsh
  unfold fileE at he ⊢
  refine ⟨?eR, evalC_of ?h1, ?h2, ?h3, ?h4⟩
  case h1 =>
    simp (config := {decide := true, contextual := true, maxSteps := 3000000}) only [fileC, kA0, kA1, h87, h76, run81, run80_3, he, List.length_map, List.replicate, ↓simPre, simPost, Bool.not_not, Bool.not_false, Bool.not_true, Bool.false_eq_true, reduceCtorEq, ↓reduceIte, decide_true, decide_false, splice, results, resT, resTs, AV.key, Bool.and_true, Bool.true_and, and_true, true_and, and_self, List.flatMap_nil, List.flatMap_cons, List.append_nil, List.nil_append, List.cons_append, List.map_cons, List.map_nil, List.all_cons, List.all_nil, List.length_cons, List.length_nil, Nat.reduceAdd, Nat.reduceLT, Nat.reduceLeDiff, Nat.reduceEqDiff, Nat.reduceSub, Nat.zero_add, Nat.add_zero, List.drop_succ_cons, List.drop_zero, List.take_succ_cons, List.take_zero]
    rfl
  all_goals rfl
theorem evA_ok (fn n : ByteArray) (l : List Fd) (ks : List (ByteArray × Bool)) (u : Bool) (hn : fn.size ≤ 1000000) (hsh : Short n l) (he : (fileE fn n l ks != 0) = false) :
    ∃ eA, evalC (run T SN) L0 (.seq kA0 kA1) ⟨.agg (fileC fn n l ks u) :: List.replicate 65 .unk, List.replicate 66 ⟨0, .dead⟩⟩ = some (.normal, eA) ∧
      eA.tmps.length = 66 ∧ eA.tmps.getD 1 .unk = .ptr 1 1 0 ∧ eA.ok? 1 1 = some (.box (fileC fn n l ks u)) := by
  have h87 := run87 (S := SN) (T := T) T87 fn (by omega)
  have h76 := run76 (S := SN) n l hsh
  unfold fileE at he
  refine ⟨?eA, evalC_of ?h1, ?h2, ?h3, ?h4⟩
  case h1 =>
    simp (config := {decide := true, contextual := true, maxSteps := 3000000}) only [fileC, kA0, kA1, h87, h76, run81, run80_3, he, List.length_map, List.replicate, ↓simPre, simPost, Bool.not_not, Bool.not_false, Bool.not_true, Bool.false_eq_true, reduceCtorEq, ↓reduceIte, decide_true, decide_false, splice, results, resT, resTs, AV.key, Bool.and_true, Bool.true_and, and_true, true_and, and_self, List.flatMap_nil, List.flatMap_cons, List.append_nil, List.nil_append, List.cons_append, List.map_cons, List.map_nil, List.all_cons, List.all_nil, List.length_cons, List.length_nil, Nat.reduceAdd, Nat.reduceLT, Nat.reduceLeDiff, Nat.reduceEqDiff, Nat.reduceSub, Nat.zero_add, Nat.add_zero, List.drop_succ_cons, List.drop_zero, List.take_succ_cons, List.take_zero]
    rfl
  all_goals rfl
abbrev ts5 (F : List AV) : List AV := [.unk, .el F, .unk, .unk, .unk, .mp []] ++ List.replicate 60 .unk
theorem evR5 (fn n : ByteArray) (l : List Fd) (ks : List (ByteArray × Bool)) (u : Bool) :
    ∃ e5, evalC (run T SN) L0 kR5 ⟨ts5 (fileC fn n l ks u), List.replicate 66 ⟨0, .dead⟩⟩ = some (.normal, e5) ∧ e5.tmps.length = 66 ∧ e5.tmps.getD 1 .unk = .el (fileC fn n l ks u) ∧ e5.tmps.getD 5 .unk = .mp [] ∧
      e5.tmps.getD 32 .unk = .sl (ks.map encK) ∧ e5.tmps.getD 33 .unk = .int .i64 ks.length ∧ e5.tmps.getD 34 .unk = .int .i64 (0 : Nat) := by
  refine ⟨?e5, evalC_of ?h1, ?h2, ?h3, ?h4, ?h5, ?h6, ?h7⟩
  case h1 =>
    simp (config := {decide := true, contextual := true, maxSteps := 3000000}) only [ts5, fileC, kR5, List.length_map, List.replicate, ↓simPre, simPost, Bool.not_not, Bool.not_false, Bool.not_true, Bool.false_eq_true, reduceCtorEq, ↓reduceIte, decide_true, decide_false, splice, results, resT, resTs, AV.key, Bool.and_true, Bool.true_and, and_true, true_and, and_self, List.flatMap_nil, List.flatMap_cons, List.append_nil, List.nil_append, List.cons_append, List.map_cons, List.map_nil, List.all_cons, List.all_nil, List.length_cons, List.length_nil, Nat.reduceAdd, Nat.reduceLT, Nat.reduceLeDiff, Nat.reduceEqDiff, Nat.reduceSub, Nat.zero_add, Nat.add_zero, List.drop_succ_cons, List.drop_zero, List.take_succ_cons, List.take_zero]
    rfl
  all_goals rfl
abbrev ts4 (F : List AV) (M : List (List AV)) (ks : List (ByteArray × Bool)) (i : Nat) : List AV := [.unk, .el F, .unk, .unk, .unk, .mp M] ++ List.replicate 26 .unk ++ [.sl (ks.map encK), .int .i64 ks.length, .int .i64 i] ++ List.replicate 31 .unk
theorem evR_err (fn n : ByteArray) (l : List Fd) (ks : List (ByteArray × Bool)) (u : Bool) (seen : List (ByteArray × Bool)) (i : Nat) (hi : i < ks.length) (hk : ks.length ≤ 1000) (hl : l.length ≤ 1000) (k : ByteArray × Bool) (hki : ks.getD i (bs [], false) = k) (he : (keyErr l seen k != 0) = true) :
    ∃ e6 eR, evalC (run T SN) L0 (.seq kR6 kCN) ⟨ts4 (fileC fn n l ks u) (seen.map ent) ks i, List.replicate 66 ⟨0, .dead⟩⟩ = some (.normal, e6) ∧ evalC (run T SN) L0 (.seq kR7 (.seq kR8 kCN2)) e6 = some (.ret, eR) ∧
      eR.tmps.length = 66 ∧ eR.tmps.getD 2 .unk = .int .i64 i ∧ eR.tmps.getD 3 .unk = .int .i64 (keyErr l seen k) := by
  have h88 := run88 (S := SN) n k.1 l (by omega)
  obtain ⟨h1, h2, h4, h5⟩ := idx hi (by omega)
  have h3 := map_get encK ks i (bs [], false) hi
  rw [hki] at h3
  simp only [encK] at h3
  unfold keyErr at he ⊢
  refine ⟨?e6, ?eR, evalC_of ?g1, evalC_of ?g2, ?f1, ?f2, ?f3⟩
  case g1 =>
    simp (config := {decide := true, contextual := true, maxSteps := 3000000}) only [ts4, fileC, kR6, kCN, h2, List.replicate, ↓simPre, simPost, Bool.not_not, Bool.not_false, Bool.not_true, Bool.false_eq_true, reduceCtorEq, ↓reduceIte, decide_true, decide_false, splice, results, resT, resTs, AV.key, Bool.and_true, Bool.true_and, and_true, true_and, and_self, List.flatMap_nil, List.flatMap_cons, List.append_nil, List.nil_append, List.cons_append, List.map_cons, List.map_nil, List.all_cons, List.all_nil, List.length_cons, List.length_nil, Nat.reduceAdd, Nat.reduceLT, Nat.reduceLeDiff, Nat.reduceEqDiff, Nat.reduceSub, Nat.zero_add, Nat.add_zero, List.drop_succ_cons, List.drop_zero, List.take_succ_cons, List.take_zero]
    rfl
  case g2 =>
    simp (config := {decide := true, contextual := true, maxSteps := 3000000}) only [kR7, kR8, kCN2, h1, h2, h3, h4, h88, run81, run80_2, he, List.length_map, List.replicate, ↓simPre, simPost, Bool.not_not, Bool.not_false, Bool.not_true, Bool.false_eq_true, reduceCtorEq, ↓reduceIte, decide_true, decide_false, splice, results, resT, resTs, AV.key, Bool.and_true, Bool.true_and, and_true, true_and, and_self, List.flatMap_nil, List.flatMap_cons, List.append_nil, List.nil_append, List.cons_append, List.map_cons, List.map_nil, List.all_cons, List.all_nil, List.length_cons, List.length_nil, Nat.reduceAdd, Nat.reduceLT, Nat.reduceLeDiff, Nat.reduceEqDiff, Nat.reduceSub, Nat.zero_add, Nat.add_zero, List.drop_succ_cons, List.drop_zero, List.take_succ_cons, List.take_zero]
    rfl
  all_goals rfl
theorem evR_ok (fn n : ByteArray) (l : List Fd) (ks : List (ByteArray × Bool)) (u : Bool) (seen : List (ByteArray × Bool)) (i : Nat) (hi : i < ks.length) (hk : ks.length ≤ 1000) (hl : l.length ≤ 1000) (k : ByteArray × Bool) (hki : ks.getD i (bs [], false) = k) (he : (keyErr l seen k != 0) = false) :
    ∃ e6 e9, evalC (run T SN) L0 (.seq kR6 kCN) ⟨ts4 (fileC fn n l ks u) (seen.map ent) ks i, List.replicate 66 ⟨0, .dead⟩⟩ = some (.normal, e6) ∧ evalC (run T SN) L0 (.seq kR7 (.seq kR8 kCN2)) e6 = some (.normal, e9) ∧
      e9.tmps.length = 66 ∧ e9.tmps.getD 1 .unk = .el (fileC fn n l ks u) ∧ e9.tmps.getD 5 .unk = .mp (seen.map ent) ∧ e9.tmps.getD 32 .unk = .sl (ks.map encK) ∧ e9.tmps.getD 33 .unk = .int .i64 ks.length ∧ e9.tmps.getD 34 .unk = .int .i64 i ∧
      e9.tmps.getD 7 .unk = .ptr 7 1 0 ∧ e9.ok? 7 1 = some (.box [.str k.1, .bool k.2]) := by
  have h88 := run88 (S := SN) n k.1 l (by omega)
  obtain ⟨h1, h2, h4, h5⟩ := idx hi (by omega)
  have h3 := map_get encK ks i (bs [], false) hi
  rw [hki] at h3
  simp only [encK] at h3
  unfold keyErr at he
  refine ⟨?e6, ?e9, evalC_of ?g1, evalC_of ?g2, ?f1, ?f2, ?f3, ?f4, ?f5, ?f6, ?f7, ?f8⟩
  case g1 =>
    simp (config := {decide := true, contextual := true, maxSteps := 3000000}) only [ts4, fileC, kR6, kCN, h2, List.replicate, ↓simPre, simPost, Bool.not_not, Bool.not_false, Bool.not_true, Bool.false_eq_true, reduceCtorEq, ↓reduceIte, decide_true, decide_false, splice, results, resT, resTs, AV.key, Bool.and_true, Bool.true_and, and_true, true_and, and_self, List.flatMap_nil, List.flatMap_cons, List.append_nil, List.nil_append, List.cons_append, List.map_cons, List.map_nil, List.all_cons, List.all_nil, List.length_cons, List.length_nil, Nat.reduceAdd, Nat.reduceLT, Nat.reduceLeDiff, Nat.reduceEqDiff, Nat.reduceSub, Nat.zero_add, Nat.add_zero, List.drop_succ_cons, List.drop_zero, List.take_succ_cons, List.take_zero]
    rfl
  case g2 =>
    simp (config := {decide := true, contextual := true, maxSteps := 3000000}) only [kR7, kR8, kCN2, h1, h2, h3, h4, h88, run81, run80_2, he, List.length_map, List.replicate, ↓simPre, simPost, Bool.not_not, Bool.not_false, Bool.not_true, Bool.false_eq_true, reduceCtorEq, ↓reduceIte, decide_true, decide_false, splice, results, resT, resTs, AV.key, Bool.and_true, Bool.true_and, and_true, true_and, and_self, List.flatMap_nil, List.flatMap_cons, List.append_nil, List.nil_append, List.cons_append, List.map_cons, List.map_nil, List.all_cons, List.all_nil, List.length_cons, List.length_nil, Nat.reduceAdd, Nat.reduceLT, Nat.reduceLeDiff, Nat.reduceEqDiff, Nat.reduceSub, Nat.zero_add, Nat.add_zero, List.drop_succ_cons, List.drop_zero, List.take_succ_cons, List.take_zero]
    rfl
  all_goals rfl
theorem evR_end (F : List AV) (M : List (List AV)) (ks : List (ByteArray × Bool)) : ∃ e6, evalC (run T SN) L0 (.seq kR6 kCN) ⟨ts4 F M ks ks.length, List.replicate 66 ⟨0, .dead⟩⟩ = some (.exit 0, e6) ∧ e6.tmps.length = 66 := by
  have h2 := idxEnd (Nat.le_refl ks.length)
  refine ⟨?e6, evalC_of ?g1, ?f1⟩
  case g1 =>
    simp (config := {decide := true, contextual := true, maxSteps := 3000000}) only [ts4, fileC, kR6, kCN, h2, List.replicate, ↓simPre, simPost, Bool.not_not, Bool.not_false, Bool.not_true, Bool.false_eq_true, reduceCtorEq, ↓reduceIte, decide_true, decide_false, splice, results, resT, resTs, AV.key, Bool.and_true, Bool.true_and, and_true, true_and, and_self, List.flatMap_nil, List.flatMap_cons, List.append_nil, List.nil_append, List.cons_append, List.map_cons, List.map_nil, List.all_cons, List.all_nil, List.length_cons, List.length_nil, Nat.reduceAdd, Nat.reduceLT, Nat.reduceLeDiff, Nat.reduceEqDiff, Nat.reduceSub, Nat.zero_add, Nat.add_zero, List.drop_succ_cons, List.drop_zero, List.take_succ_cons, List.take_zero]
    rfl
  all_goals rfl
theorem evR12 (F : List AV) (M : List (List AV)) (ks : List (ByteArray × Bool)) (i : Nat) (hi : i < ks.length) (hk : ks.length ≤ 1000) : ∃ e6, evalC (run T SN) L0 kR12 ⟨ts4 F M ks i, List.replicate 66 ⟨0, .dead⟩⟩ = some (.normal, e6) ∧ e6.tmps.length = 66 ∧
    e6.tmps.getD 1 .unk = .el F ∧ e6.tmps.getD 5 .unk = .mp M ∧ e6.tmps.getD 32 .unk = .sl (ks.map encK) ∧ e6.tmps.getD 33 .unk = .int .i64 ks.length ∧ e6.tmps.getD 34 .unk = .int .i64 (i + 1 : Nat) := by
  obtain ⟨h1, h2, h4, h5⟩ := idx hi (by omega)
  refine ⟨?e6, evalC_of ?g1, ?f1, ?f2, ?f3, ?f4, ?f5, ?f6⟩
  case g1 =>
    simp (config := {decide := true, contextual := true, maxSteps := 3000000}) only [ts4, kR12, h5, List.replicate, ↓simPre, simPost, Bool.not_not, Bool.not_false, Bool.not_true, Bool.false_eq_true, reduceCtorEq, ↓reduceIte, decide_true, decide_false, splice, results, resT, resTs, AV.key, Bool.and_true, Bool.true_and, and_true, true_and, and_self, List.flatMap_nil, List.flatMap_cons, List.append_nil, List.nil_append, List.cons_append, List.map_cons, List.map_nil, List.all_cons, List.all_nil, List.length_cons, List.length_nil, Nat.reduceAdd, Nat.reduceLT, Nat.reduceLeDiff, Nat.reduceEqDiff, Nat.reduceSub, Nat.zero_add, Nat.add_zero, List.drop_succ_cons, List.drop_zero, List.take_succ_cons, List.take_zero]
    rfl
  all_goals rfl
theorem evE (ts : List AV) (hts : ts = List.replicate 66 .unk) : ∃ eE, evalC (run T SN) L0 kE1 ⟨ts, List.replicate 66 ⟨0, .dead⟩⟩ = some (.ret, eE) ∧ eE.tmps.length = 66 ∧ eE.tmps.getD 2 .unk = .int .i64 0 ∧ eE.tmps.getD 3 .unk = .int .i64 0 := by
  subst hts
  refine ⟨?e6, evalC_of ?g1, ?f1, ?f2, ?f3⟩
  case g1 =>
    simp (config := {decide := true, contextual := true, maxSteps := 3000000}) only [kE1, List.replicate, ↓simPre, simPost, Bool.not_not, Bool.not_false, Bool.not_true, Bool.false_eq_true, reduceCtorEq, ↓reduceIte, decide_true, decide_false, splice, results, resT, resTs, AV.key, Bool.and_true, Bool.true_and, and_true, true_and, and_self, List.flatMap_nil, List.flatMap_cons, List.append_nil, List.nil_append, List.cons_append, List.map_cons, List.map_nil, List.all_cons, List.all_nil, List.length_cons, List.length_nil, Nat.reduceAdd, Nat.reduceLT, Nat.reduceLeDiff, Nat.reduceEqDiff, Nat.reduceSub, Nat.zero_add, Nat.add_zero, List.drop_succ_cons, List.drop_zero, List.take_succ_cons, List.take_zero]
    rfl
  all_goals rfl
end Go.Bv

/- BY VALUE, chapter 26: CheckFile's contract. -/
set_option linter.unusedSimpArgs false
set_option linter.unusedVariables false
namespace Go.Bv
attribute [local congr] ite_congr congr_bindOps congr_bindC congr_andThen congr_orNone congr_onBool congr_onEff congr_headC
set_option maxRecDepth 100000
set_option maxHeartbeats 40000000
open Go.Proofs Go.RowKit P28
theorem findNow_none (s : ByteArray) : ∀ (es : List MapEntry) (seen : List (ByteArray × Bool)) (i : Nat), es.map (fun x => (x.key, x.val)) = (seen.map ent).map entV → mapHas (seen.map ent) s = false → Instr.findNow .string (.string s) es i = some none := by
  intro es
  induction es with
  | nil => intro seen i _ _; rfl
  | cons y es ih =>
    intro seen i he hh
    cases seen with
    | nil => simp at he
    | cons k seen =>
      simp only [List.map_cons, List.cons.injEq, ent, entV, Prod.mk.injEq] at he
      obtain ⟨⟨hk, _⟩, he⟩ := he
      unfold Instr.findNow
      rw [hk]
      simp only [Instr.sameNow, bytes_beq]
      simp only [List.map_cons, ent, mapHas] at hh
      cases hb : (s.toList == k.1.toList) with
      | true => rw [hb] at hh; simp at hh
      | false =>
        rw [hb] at hh
        simp only [Bool.false_eq_true, if_false] at hh
        exact ih seen (i + 1) he hh
theorem run_push {P : Program} {w : World} {t kt et : TypeId} {r clock : Nat} {es : Array MapEntry} {s : ByteArray} (ht : P.underlying t = some (.map kt et)) (hk : P.underlying kt = some .string) (hb : w.heap[r]? = some (.map es clock))
    (hf : Instr.findNow .string (.string s) es.toList 0 = some none) (v : Value) :
    (Instr.mapUpdate t (.map (some r)) (.string s) v).run P w = .ok () { w with heap := w.heap.setIfInBounds r (.map (es.push { key := .string s, val := v, born := clock }) (clock + 1)) } := by
  have hc : (Instr.checkKey false 10000 kt (.string s)).run P w = .ok () w := MapKept.run_checkKey (k := .string s) hk (by simp [MapKept.IsKey]) false 9999
  simp [Instr.mapUpdate, run_underlying ht, MapKept.run_getObj_map hb, hc, MapKept.run_findKey hk hf, MapKept.run_setObj_map _ hb, Result.andThen]
/-- No map among the cells that are read. -/
theorem RepR.nomap {w : World} {ok : Nat → Nat → Prop} {v : Value} {A : AV} (h : RepR w ok v A) (hA : A.pure = true ∨ ((∃ l, A = .el l) ∨ ∃ l, A = .agg l)) (X : Nat → Prop) (hX : ∀ b, X b → ∃ es c, w.heap[b]? = some (.map es c)) :
    RepR w (fun b o => ok b o ∧ ¬ X b) v A := by
  have hno : ∀ b o u, w.cell? ⟨b, o, none⟩ = some u → ¬ X b := fun b o u hu hx => by
    obtain ⟨es, c, hm⟩ := hX b hx
    simp [World.cell?, hm] at hu
  induction h with
  | unk v => exact .unk v
  | und => exact .und
  | int k n => exact .int k n
  | bool b => exact .bool b
  | str s => exact .str s
  | nil => exact .nil
  | sl0 a cap => exact .sl0 a cap
  | sl b o cap c l u hcap hc hcell hpure _ ih =>
    exact .sl b o cap c l u hcap hc (fun i j hi hj => ⟨⟨(hcell i j hi hj).1, hno _ _ _ (hcell i j hi hj).2⟩, (hcell i j hi hj).2⟩) hpure (fun i j hi hj => ih i j hi hj (.inl (hpure i j hi hj)))
  | agg vs l hs hpure _ ih => exact .agg vs l hs hpure (fun j hj => ih j hj (.inl (hpure j hj)))
  | tup vs l hs _ ih => rcases hA with h | ⟨l', h⟩ | ⟨l', h⟩ <;> cases h
  | fn f vs l hs hp _ ih => exact .fn f vs l hs hp (fun j hj => ih j hj ((hp j hj).imp id .inr))
  | el b o l u hcell hpure _ ih => exact .el b o l u (fun j hj => ⟨⟨(hcell j hj).1, hno _ _ _ (hcell j hj).2⟩, (hcell j hj).2⟩) hpure (fun j hj => ih j hj (.inl (hpure j hj)))
  | raw v => exact .raw v
  | mp r clock es l hok hm he hl => rcases hA with h | ⟨l', h⟩ | ⟨l', h⟩ <;> cases h
structure LI (base : Nat) (w0 : World) (F : List AV) (M : List (List AV)) (ks : List (ByteArray × Bool)) (i : Nat) (a : Act) (w : World) : Prop where
  size : a.tmps.size = 66
  defers : a.defers = []
  hb : base ≤ w.heap.size
  bel : Below base w0 w
  rep : ∃ ok : Nat → Nat → Prop, (∀ b o, ok b o → b < w.heap.size) ∧ (∀ b o, ok b o → b < base → ∀ es c, w.heap[b]? ≠ some (.map es c)) ∧ RepR w ok (a.tmps.getD 1 undef) (.el F) ∧ RepR w ok (a.tmps.getD 5 undef) (.mp M) ∧
    RepR w ok (a.tmps.getD 32 undef) (.sl (ks.map encK)) ∧ a.tmps.getD 33 undef = .int .i64 ks.length ∧ a.tmps.getD 34 undef = .int .i64 i
theorem ts4_get (F : List AV) (M : List (List AV)) (ks : List (ByteArray × Bool)) (i t : Nat) : (ts4 F M ks i).getD t .unk = if 34 = t then .int .i64 i else if 33 = t then .int .i64 ks.length else if 32 = t then .sl (ks.map encK) else if 5 = t then .mp M else if 1 = t then .el F else .unk := by
  have e : ts4 F M ks i = (((((List.replicate 66 AV.unk).set 1 (.el F)).set 5 (.mp M)).set 32 (.sl (ks.map encK))).set 33 (.int .i64 ks.length)).set 34 (.int .i64 i) := rfl
  rw [e, getD_set_if (by simp), getD_set_if (by simp), getD_set_if (by simp), getD_set_if (by simp), getD_set_if (by simp), rep_get]
theorem LI.rel {base : Nat} {w0 : World} {F : List AV} {M : List (List AV)} {ks : List (ByteArray × Bool)} {i : Nat} {a : Act} {w : World} (h : LI base w0 F M ks i a w) :
    ∃ ok, (∀ b o, ok b o → b < base → ∀ es c, w.heap[b]? ≠ some (.map es c)) ∧ Rel w.heap.size w ok ⟨ts4 F M ks i, List.replicate 66 ⟨0, .dead⟩⟩ a w ⟨fun _ => undef, ok⟩ := by
  obtain ⟨ok, h1, h2, h3, h4, h5, h6, h7⟩ := h.rep
  refine ⟨ok, h2, Rel.bare (ts := ts4 F M ks i) h.size h.defers h1 (fun t ht => ?_)⟩
  rw [ts4_get]
  by_cases c1 : 34 = t
  · rw [if_pos c1, ← c1, h7]; exact .int _ _
  rw [if_neg c1]
  by_cases c2 : 33 = t
  · rw [if_pos c2, ← c2, h6]; exact .int _ _
  rw [if_neg c2]
  by_cases c3 : 32 = t
  · rw [if_pos c3, ← c3]; exact h5
  rw [if_neg c3]
  by_cases c4 : 5 = t
  · rw [if_pos c4, ← c4]; exact h4
  rw [if_neg c4]
  by_cases c5 : 1 = t
  · rw [if_pos c5, ← c5]; exact h3
  rw [if_neg c5]
  exact .unk _
theorem LI.of {base : Nat} {w0 wB : World} {F : List AV} {M : List (List AV)} {ks : List (ByteArray × Bool)} {i : Nat} {e : Env} {ok : Nat → Nat → Prop} {G : Gh} {a : Act} {w : World} (r : Rel wB.heap.size wB ok e a w G) (hb : base ≤ wB.heap.size) (bel : Below base w0 wB)
    (hm : ∀ b o, ok b o → b < base → ∀ es c, wB.heap[b]? ≠ some (.map es c)) (f1 : e.tmps.length = 66) (f2 : e.tmps.getD 1 .unk = .el F) (f3 : e.tmps.getD 5 .unk = .mp M) (f4 : e.tmps.getD 32 .unk = .sl (ks.map encK)) (f5 : e.tmps.getD 33 .unk = .int .i64 ks.length)
    (f6 : e.tmps.getD 34 .unk = .int .i64 i) : LI base w0 F M ks i a w := by
  refine ⟨r.size.trans f1, r.defers, Nat.le_trans hb r.below.size, bel.trans (r.below.mono hb), G.ok, r.okb, fun b o hk hlt es c => ?_, ?_, ?_, ?_, ?_, ?_⟩
  · rw [r.below.block b (by omega)]
    exact hm b o ((r.ok0 b o (by omega)).1 hk) hlt es c
  · have := r.tmps 1 (by omega); rw [f2] at this; exact this
  · have := r.tmps 5 (by omega); rw [f3] at this; exact this
  · have := r.tmps 32 (by omega); rw [f4] at this; exact this
  · exact inv_int (by have := r.tmps 33 (by omega); rwa [f5] at this)
  · exact inv_int (by have := r.tmps 34 (by omega); rwa [f6] at this)
theorem key_size : (Try.prog.info? 9).map (·.size) = some 1 := by kernel_rfl
theorem ent_all (seen : List (ByteArray × Bool)) : ∀ x ∈ seen.map ent, ∃ s b, x = [.str s, .bool b] := by
  intro x hx
  obtain ⟨k, _, rfl⟩ := List.mem_map.1 hx
  exact ⟨k.1, true, rfl⟩
end Go.Bv
