/- BY VALUE, chapter 26: the pieces of RecordOf's code. -/
import Derived.Test.YtnfmilnlekmjgaaProg
import Derived.Test.YtnfmilnlekmjgaaC26F
namespace Go.Bv
open Go.Proofs
def sq1 : Code → Code
  | .seq a _ => a
  | c => c
def sq2 : Code → Code
  | .seq _ b => b
  | c => c
def un : Code → Code
  | .block _ a => a
  | .loop a => a
  | c => c
def opsOf : Code → Array Oper
  | .region _ ops _ => ops
  | _ => #[]
noncomputable def B23 : Code := Try.f23.body.getD .skip
noncomputable def A0 : Code := sq1 B23
noncomputable def A1 : Code := sq1 (sq2 B23)
noncomputable def R4c : Code := sq1 (sq2 (sq2 B23))
noncomputable def D1 : Code := sq1 (sq2 (sq2 (sq2 B23)))
noncomputable def E1 : Code := sq2 (sq2 (sq2 (sq2 B23)))
noncomputable def R5c : Code := sq1 D1
noncomputable def LB : Code := un (un (sq2 D1))
noncomputable def R6c : Code := sq1 LB
noncomputable def CN : Code := sq1 (sq2 LB)
noncomputable def X1 : Code := un (sq1 (sq2 (sq2 LB)))
noncomputable def R12c : Code := sq2 (sq2 (sq2 LB))
noncomputable def R7c : Code := sq1 X1
noncomputable def R8c : Code := sq1 (sq2 X1)
noncomputable def CN2 : Code := sq1 (sq2 (sq2 X1))
noncomputable def R11c : Code := sq2 (sq2 (sq2 X1))
noncomputable def R13c : Code := sq1 E1
theorem B23_eq : Try.f23.body = some (.seq A0 (.seq A1 (.seq R4c (.seq (.seq R5c (.block 0 (.loop (.seq R6c (.seq CN (.seq (.block 1 (.seq R7c (.seq R8c (.seq CN2 R11c)))) R12c)))))) (.seq R13c .ret))))) := by kernel_rfl
def kA0 : C := (.reg [] [⟨(some 2), (.box 24 (.t 0)), none⟩, ⟨(some 4), (.mv (.c (.str (bs [])))), none⟩, ⟨(some 5), (.mv (.c (.int .i64 0))), none⟩, ⟨(some 6), (.mv (.c (.int .i64 0))), none⟩])
theorem compA0 : compC Try.prog A0 = some kA0 := by kernel_rfl
def kA1 : C := (.seq (.reg [14, 21, 23] [⟨(some 13), (.ld (some 2) (.t 2)), none⟩, ⟨(some 14), (.call 76 [(.t 13)]), none⟩, ⟨(some 15), (.mv (.t 1)), none⟩, ⟨(some 16), (.len (.t 15)), none⟩, ⟨(some 17), (.fa 1 1 (.t 2)), none⟩, ⟨(some 18), (.ld none (.t 17)), none⟩, ⟨(some 19), (.len (.t 18)), none⟩, ⟨(some 20), (.bin .neq (.t 16) (.t 19)), none⟩, ⟨(some 21), (.call 81 [(.t 20), (.c (.int .i64 37))]), none⟩, ⟨(some 22), (.lit 27 1 [(.t 14), (.t 21)]), none⟩, ⟨(some 23), (.call 80 [(.t 22)]), none⟩, ⟨(some 7), (.mv (.t 23)), none⟩]) (.seq (.reg [] [⟨(some 24), (.mv (.t 7)), none⟩, ⟨(some 25), (.bin .neq (.t 24) (.c (.int .i64 0))), none⟩]) (.cond (.t 25) (.seq (.reg [] [⟨(some 26), (.mv (.t 7)), none⟩, ⟨(some 4), (.mv (.c (.str (bs [])))), none⟩, ⟨(some 5), (.mv (.c (.int .i64 0))), none⟩, ⟨(some 6), (.mv (.t 26)), none⟩]) .ret) .skip)))
theorem compA1 : compC Try.prog A1 = some kA1 := by kernel_rfl
def kR5c : C := (.reg [] [⟨(some 27), (.mv (.t 1)), none⟩, ⟨(some 28), (.len (.t 27)), none⟩, ⟨(some 29), (.mv (.c (.int .i64 0))), none⟩])
theorem compR5c : compC Try.prog R5c = some kR5c := by kernel_rfl
def kR6c : C := (.reg [] [⟨(some 30), (.bin .lss (.t 29) (.t 28)), none⟩])
theorem compR6c : compC Try.prog R6c = some kR6c := by kernel_rfl
def kCN : C := (.cond (.t 30) .skip (.exit 0))
theorem compCN : compC Try.prog CN = some kCN := by kernel_rfl
def kR7c : C := (.reg [] [⟨(some 31), (.mv (.t 29)), none⟩, ⟨(some 32), (.ia 2 (.t 27) (.t 29)), none⟩, ⟨(some 33), (.ld (some 2) (.t 32)), none⟩, ⟨(some 10), (.new 40 [(.int .i64 0), (.str (bs []))]), none⟩, ⟨(some 9), (.mv (.t 31)), none⟩, ⟨none, (.st 2 (.t 10) (.t 33)), none⟩])
theorem compR7c : compC Try.prog R7c = some kR7c := by kernel_rfl
def kR8c : C := (.reg [42] [⟨(some 35), (.fa 1 1 (.t 2)), none⟩, ⟨(some 36), (.ld none (.t 35)), none⟩, ⟨(some 37), (.mv (.t 9)), none⟩, ⟨(some 38), (.ia 4 (.t 36) (.t 37)), none⟩, ⟨(some 39), (.fa 1 3 (.t 38)), none⟩, ⟨(some 40), (.ld (some 3) (.t 39)), none⟩, ⟨(some 41), (.ld (some 2) (.t 10)), none⟩, ⟨(some 42), (.call 82 [(.t 40), (.t 41)]), none⟩, ⟨(some 34), (.mv (.t 42)), none⟩, ⟨(some 43), (.ext (.t 34) 0), none⟩, ⟨(some 44), (.ext (.t 34) 1), none⟩, ⟨(some 11), (.mv (.t 43)), none⟩, ⟨(some 12), (.mv (.t 44)), none⟩])
theorem compR8c : compC Try.prog R8c = some kR8c := by kernel_rfl
def kCN2 : C := (.seq (.reg [] [⟨(some 45), (.mv (.t 12)), none⟩, ⟨(some 46), (.bin .neq (.t 45) (.c (.int .i64 0))), none⟩]) (.cond (.t 46) (.seq (.reg [] [⟨(some 47), (.mv (.t 9)), none⟩, ⟨(some 48), (.mv (.t 12)), none⟩, ⟨(some 4), (.mv (.c (.str (bs [])))), none⟩, ⟨(some 5), (.mv (.t 47)), none⟩, ⟨(some 6), (.mv (.t 48)), none⟩]) .ret) .skip))
theorem compCN2 : compC Try.prog CN2 = some kCN2 := by kernel_rfl
def kR12c : C := (.reg [] [⟨(some 51), (.bin .add (.t 29) (.c (.int .i64 1))), none⟩, ⟨(some 29), (.mv (.t 51)), none⟩])
theorem compR12c : compC Try.prog R12c = some kR12c := by kernel_rfl

theorem R4c_eq : R4c = .region 4 (opsOf R4c) false := by kernel_rfl
theorem R4c_size : (opsOf R4c).size = 1 := by kernel_rfl
theorem R4c_0 : ∃ o, (opsOf R4c)[0]? = some o ∧ o.guard = none ∧ o.op = .alloc 149 ∧ o.dst = some 8 := ⟨(opsOf R4c)[0]?.getD ⟨none, .ready 0, 0, "", #[], none⟩, by kernel_rfl, by kernel_rfl, by kernel_rfl, by kernel_rfl⟩
theorem R11c_eq : R11c = .region 11 (opsOf R11c) false := by kernel_rfl
theorem R11c_size : (opsOf R11c).size = 2 := by kernel_rfl
theorem R11c_0 : ∃ o, (opsOf R11c)[0]? = some o ∧ o.guard = none ∧ o.op = .move (.tmp 11) ∧ o.dst = some 49 := ⟨(opsOf R11c)[0]?.getD ⟨none, .ready 0, 0, "", #[], none⟩, by kernel_rfl, by kernel_rfl, by kernel_rfl, by kernel_rfl⟩
theorem R11c_1 : ∃ o, (opsOf R11c)[1]? = some o ∧ o.guard = none ∧ o.op = .call { callee := .value (.func 83), args := #[.tmp 8, .tmp 49], argTypes := #[149, 9] } ∧ o.dst = some 50 := ⟨(opsOf R11c)[1]?.getD ⟨none, .ready 0, 0, "", #[], none⟩, by kernel_rfl, by kernel_rfl, by kernel_rfl, by kernel_rfl⟩
theorem R13c_eq : R13c = .region 13 (opsOf R13c) false := by kernel_rfl
theorem R13c_size : (opsOf R13c).size = 4 := by kernel_rfl
theorem R13c_0 : ∃ o, (opsOf R13c)[0]? = some o ∧ o.guard = none ∧ o.op = .call { callee := .value (.func 84), args := #[.tmp 8], argTypes := #[149] } ∧ o.dst = some 52 := ⟨(opsOf R13c)[0]?.getD ⟨none, .ready 0, 0, "", #[], none⟩, by kernel_rfl, by kernel_rfl, by kernel_rfl, by kernel_rfl⟩
theorem R13c_1 : ∃ o, (opsOf R13c)[1]? = some o ∧ o.guard = none ∧ o.op = .assign (.tmp 52) ∧ o.dst = some 4 := ⟨(opsOf R13c)[1]?.getD ⟨none, .ready 0, 0, "", #[], none⟩, by kernel_rfl, by kernel_rfl, by kernel_rfl, by kernel_rfl⟩
theorem R13c_2 : ∃ o, (opsOf R13c)[2]? = some o ∧ o.guard = none ∧ o.op = .assign (.const (.int .i64 0)) ∧ o.dst = some 5 := ⟨(opsOf R13c)[2]?.getD ⟨none, .ready 0, 0, "", #[], none⟩, by kernel_rfl, by kernel_rfl, by kernel_rfl, by kernel_rfl⟩
theorem R13c_3 : ∃ o, (opsOf R13c)[3]? = some o ∧ o.guard = none ∧ o.op = .assign (.const (.int .i64 0)) ∧ o.dst = some 6 := ⟨(opsOf R13c)[3]?.getD ⟨none, .ready 0, 0, "", #[], none⟩, by kernel_rfl, by kernel_rfl, by kernel_rfl, by kernel_rfl⟩
end Go.Bv
