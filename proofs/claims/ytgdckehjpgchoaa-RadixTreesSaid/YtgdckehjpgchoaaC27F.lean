/- The functions of this seat, by value. Written by my own program (gen/genlit, gen/mkfuncs). -/
import Derived.Test.YtgdckehjpgchoaaProg
import Derived.Test.YtgdckehjpgchoaaNFun
set_option linter.unusedVariables false
set_option linter.unusedSimpArgs false
namespace Go.Nv
open Go.Proofs
def B3 : C := (.seq (.reg [⟨(some 2), (.mv (.c (.bool false))), none⟩]) (.seq (.seq (.reg [⟨(some 8), (.call 12 [] []), none⟩, ⟨(some 9), (.un .not (.t 8)), none⟩]) (.cond (.t 9) (.seq (.reg [⟨(some 2), (.mv (.c (.bool false))), none⟩]) .ret) .skip)) (.seq (.seq (.reg [⟨(some 10), (.mv (.t 0)), none⟩, ⟨(some 11), (.call 13 [.ro] [(.t 10)]), none⟩, ⟨(some 12), (.un .not (.t 11)), none⟩]) (.cond (.t 12) (.seq (.reg [⟨(some 2), (.mv (.c (.bool true))), none⟩]) .ret) .skip)) (.seq (.reg [⟨(some 14), (.mv (.t 0)), none⟩, ⟨(some 15), (.call 15 [.ro] [(.t 14)]), none⟩, ⟨(some 16), (.call 14 [.ro] [(.t 15)]), none⟩, ⟨(some 13), (.mv (.t 16)), none⟩, ⟨(some 17), (.ext (.t 13) 0), none⟩, ⟨(some 18), (.ext (.t 13) 1), none⟩, ⟨(some 19), (.ext (.t 13) 2), none⟩, ⟨(some 3), (.mv (.t 17)), none⟩, ⟨(some 4), (.mv (.t 18)), none⟩, ⟨(some 5), (.mv (.t 19)), none⟩]) (.seq (.reg [⟨(some 21), (.mv (.t 0)), none⟩, ⟨(some 22), (.call 16 [.ro] [(.t 21)]), none⟩, ⟨(some 20), (.mv (.t 22)), none⟩, ⟨(some 23), (.ext (.t 20) 0), none⟩, ⟨(some 24), (.ext (.t 20) 1), none⟩, ⟨(some 6), (.mv (.t 23)), none⟩, ⟨(some 7), (.mv (.t 24)), none⟩]) (.seq (.seq (.reg [⟨(some 25), (.mv (.t 7)), none⟩, ⟨(some 26), (.bin .neq (.t 25) (.c (.int .i64 0))), none⟩]) (.cond (.t 26) (.seq (.reg [⟨(some 27), (.mv (.t 5)), none⟩, ⟨(some 28), (.mv (.t 7)), none⟩, ⟨(some 29), (.bin .eql (.t 27) (.t 28)), none⟩, ⟨(some 30), (.mv (.t 29)), none⟩, ⟨(some 31), (.mv (.t 4)), (some (30, true))⟩, ⟨(some 32), (.mv (.t 6)), (some (30, true))⟩, ⟨(some 33), (.bin .eql (.t 31) (.t 32)), (some (30, true))⟩, ⟨(some 34), (.pick (.t 30) (.t 33) (.c (.bool false))), none⟩, ⟨(some 35), (.mv (.t 34)), none⟩, ⟨(some 36), (.mv (.t 3)), (some (35, true))⟩, ⟨(some 37), (.len (.t 36)), (some (35, true))⟩, ⟨(some 38), (.bin .eql (.t 37) (.c (.int .i64 0))), (some (35, true))⟩, ⟨(some 39), (.pick (.t 35) (.t 38) (.c (.bool false))), none⟩, ⟨(some 2), (.mv (.t 39)), none⟩]) .ret) .skip)) (.seq (.reg [⟨(some 40), (.mv (.t 5)), none⟩, ⟨(some 41), (.bin .eql (.t 40) (.c (.int .i64 0))), none⟩, ⟨(some 42), (.mv (.t 41)), none⟩, ⟨(some 43), (.mv (.t 4)), (some (42, true))⟩, ⟨(some 44), (.bin .eql (.t 43) (.c (.int .i64 0))), (some (42, true))⟩, ⟨(some 45), (.pick (.t 42) (.t 44) (.c (.bool false))), none⟩, ⟨(some 46), (.mv (.t 45)), none⟩, ⟨(some 47), (.mv (.t 3)), (some (46, true))⟩, ⟨(some 48), (.mv (.t 0)), (some (46, true))⟩, ⟨(some 49), (.call 18 [.ro] [(.t 48)]), (some (46, true))⟩, ⟨(some 50), (.call 17 [.ro, .ro] [(.t 47), (.t 49)]), (some (46, true))⟩, ⟨(some 51), (.pick (.t 46) (.t 50) (.c (.bool false))), none⟩, ⟨(some 2), (.mv (.t 51)), none⟩]) .ret)))))))
def F3 : F := ⟨1, 52, [0], [(.tmp 2)], B3⟩
set_option maxRecDepth 100000 in
theorem comp3 : compF Try.prog 3 = some F3 := by kernel_rfl
def B12 : C := (.seq (.reg [⟨(some 0), (.mv (.c (.bool false))), none⟩]) (.seq (.reg [⟨(some 5), (.call 50 [] []), none⟩, ⟨(some 6), (.call 14 [.ro] [(.t 5)]), none⟩, ⟨(some 4), (.mv (.t 6)), none⟩, ⟨(some 7), (.ext (.t 4) 0), none⟩, ⟨(some 8), (.ext (.t 4) 1), none⟩, ⟨(some 9), (.ext (.t 4) 2), none⟩, ⟨(some 1), (.mv (.t 7)), none⟩, ⟨(some 2), (.mv (.t 8)), none⟩, ⟨(some 3), (.mv (.t 9)), none⟩]) (.seq (.reg [⟨(some 10), (.mv (.t 3)), none⟩, ⟨(some 11), (.bin .eql (.t 10) (.c (.int .i64 0))), none⟩, ⟨(some 12), (.mv (.t 11)), none⟩, ⟨(some 13), (.mv (.t 2)), (some (12, true))⟩, ⟨(some 14), (.bin .eql (.t 13) (.c (.int .i64 0))), (some (12, true))⟩, ⟨(some 15), (.pick (.t 12) (.t 14) (.c (.bool false))), none⟩, ⟨(some 16), (.mv (.t 15)), none⟩, ⟨(some 17), (.mv (.t 1)), (some (16, true))⟩, ⟨(some 18), (.len (.t 17)), (some (16, true))⟩, ⟨(some 19), (.bin .eql (.t 18) (.c (.int .i64 3))), (some (16, true))⟩, ⟨(some 20), (.pick (.t 16) (.t 19) (.c (.bool false))), none⟩, ⟨(some 21), (.mv (.t 20)), none⟩, ⟨(some 22), (.mv (.t 1)), (some (21, true))⟩, ⟨(some 23), (.ia 5 (.t 22) (.c (.int .i64 0))), (some (21, true))⟩, ⟨(some 24), (.fa 0 1 (.t 23)), (some (21, true))⟩, ⟨(some 25), (.ld none (.t 24)), (some (21, true))⟩, ⟨(some 26), (.bin .eql (.t 25) (.c (.int .i64 6))), (some (21, true))⟩, ⟨(some 27), (.pick (.t 21) (.t 26) (.c (.bool false))), none⟩, ⟨(some 28), (.mv (.t 27)), none⟩, ⟨(some 29), (.mv (.t 1)), (some (28, true))⟩, ⟨(some 30), (.ia 5 (.t 29) (.c (.int .i64 1))), (some (28, true))⟩, ⟨(some 31), (.fa 3 1 (.t 30)), (some (28, true))⟩, ⟨(some 32), (.ld none (.t 31)), (some (28, true))⟩, ⟨(some 33), (.bin .eql (.t 32) (.c (.str (bs [65])))), (some (28, true))⟩, ⟨(some 34), (.pick (.t 28) (.t 33) (.c (.bool false))), none⟩, ⟨(some 0), (.mv (.t 34)), none⟩]) .ret)))
def F12 : F := ⟨0, 35, [], [(.tmp 0)], B12⟩
set_option maxRecDepth 100000 in
theorem comp12 : compF Try.prog 12 = some F12 := by kernel_rfl
def B13 : C := (.seq (.reg [⟨(some 2), (.mv (.c (.bool false))), none⟩]) (.seq (.seq (.reg [⟨(some 3), (.mv (.c (.int .i64 0))), none⟩]) (.blk 0 (.loop (.seq (.clr 1 [0] [3, 0] [(0, (47, 2))] []) (.seq (.seq (.reg [⟨(some 4), (.mv (.t 3)), none⟩, ⟨(some 5), (.mv (.t 0)), none⟩, ⟨(some 6), (.len (.t 5)), none⟩, ⟨(some 7), (.bin .lss (.t 4) (.t 6)), none⟩, ⟨(some 8), (.mv (.t 7)), none⟩, ⟨(some 9), (.mv (.t 3)), (some (8, true))⟩, ⟨(some 10), (.bin .lss (.t 9) (.c (.int .i64 125))), (some (8, true))⟩, ⟨(some 11), (.pick (.t 8) (.t 10) (.c (.bool false))), none⟩]) (.cond (.t 11) .skip (.exit 0))) (.seq (.blk 1 (.seq (.reg [⟨(some 14), (.mv (.t 0)), none⟩, ⟨(some 15), (.mv (.t 3)), none⟩, ⟨(some 16), (.ia 2 (.t 14) (.t 15)), none⟩, ⟨(some 17), (.fa 0 1 (.t 16)), none⟩, ⟨(some 18), (.ld none (.t 17)), none⟩, ⟨(some 19), (.lens (.t 18)), none⟩, ⟨(some 20), (.bin .gtr (.t 19) (.c (.int .i64 300))), none⟩]) (.cond (.t 20) (.seq (.reg [⟨(some 2), (.mv (.c (.bool false))), none⟩]) .ret) .skip))) (.reg [⟨(some 12), (.mv (.t 3)), none⟩, ⟨(some 13), (.bin .add (.t 12) (.c (.int .i64 1))), none⟩, ⟨(some 3), (.mv (.t 13)), none⟩]))))))) (.seq (.reg [⟨(some 21), (.mv (.t 0)), none⟩, ⟨(some 22), (.len (.t 21)), none⟩, ⟨(some 23), (.bin .lss (.t 22) (.c (.int .i64 125))), none⟩, ⟨(some 2), (.mv (.t 23)), none⟩]) .ret)))
def F13 : F := ⟨1, 24, [0], [(.tmp 2)], B13⟩
set_option maxRecDepth 100000 in
theorem comp13 : compF Try.prog 13 = some F13 := by kernel_rfl
def B14 : C := (.seq (.reg [⟨(some 2), (.mv (.c .nil)), none⟩, ⟨(some 3), (.mv (.c (.int .i64 0))), none⟩, ⟨(some 4), (.mv (.c (.int .i64 0))), none⟩]) (.seq (.seq (.reg [⟨(some 8), (.mv (.t 0)), none⟩, ⟨(some 9), (.len (.t 8)), none⟩, ⟨(some 10), (.bin .gtr (.t 9) (.c (.int .i64 120))), none⟩]) (.cond (.t 10) (.seq (.reg [⟨(some 2), (.mv (.c .nil)), none⟩, ⟨(some 3), (.mv (.c (.int .i64 0))), none⟩, ⟨(some 4), (.mv (.c (.int .i64 2))), none⟩]) .ret) .skip)) (.seq (.seq (.reg [⟨(some 11), (.mv (.t 0)), none⟩, ⟨(some 12), (.len (.t 11)), none⟩, ⟨(some 13), (.mv (.c (.int .i64 0))), none⟩]) (.blk 0 (.loop (.seq (.clr 1 [0] [11, 12, 13, 0] [(0, (47, 2)), (11, (47, 2))] []) (.seq (.reg [⟨(some 14), (.bin .lss (.t 13) (.t 12)), none⟩]) (.seq (.cond (.t 14) .skip (.exit 0)) (.seq (.blk 1 (.seq (.reg [⟨(some 15), (.mv (.t 13)), none⟩, ⟨(some 16), (.ia 2 (.t 11) (.t 13)), none⟩, ⟨(some 17), (.ld (some 2) (.t 16)), none⟩, ⟨(some 6), (.new [(.str (bs [])), (.int .i64 0)]), none⟩, ⟨(some 5), (.mv (.t 15)), none⟩, ⟨none, (.st 2 (.t 6) (.t 17)), none⟩]) (.seq (.drw [⟨(some 18), (.ld (some 2) (.t 6)), none⟩, ⟨(some 19), (.call 52 [.ro] [(.t 18)]), none⟩, ⟨(some 20), (.fa 0 1 (.t 6)), none⟩, ⟨(some 21), (.ld none (.t 20)), none⟩, ⟨(some 22), (.lens (.t 21)), none⟩, ⟨(some 23), (.mv (.t 0)), none⟩, ⟨(some 24), (.ia 2 (.t 23) (.c (.int .i64 0))), none⟩, ⟨(some 25), (.fa 0 1 (.t 24)), none⟩, ⟨(some 26), (.ld none (.t 25)), none⟩, ⟨(some 27), (.lens (.t 26)), none⟩, ⟨(some 28), (.bin .neq (.t 22) (.t 27)), none⟩, ⟨(some 29), (.call 53 [.ro, .ro] [(.t 28), (.c (.int .i64 18))]), none⟩, ⟨(some 30), (.mv (.t 0)), none⟩, ⟨(some 31), (.mv (.t 5)), none⟩, ⟨(some 32), (.sub 2 (.t 30) none (some (.t 31))), none⟩, ⟨(some 33), (.ld (some 2) (.t 6)), none⟩, ⟨(some 34), (.call 54 [.ro, .ro] [(.t 32), (.t 33)]), none⟩, ⟨(some 35), (.call 53 [.ro, .ro] [(.t 34), (.c (.int .i64 13))]), none⟩, ⟨(some 36), (.lit 26 1 [(.t 19), (.t 29), (.t 35)]), none⟩, ⟨(some 37), (.call 51 [.ro] [(.t 36)]), none⟩, ⟨(some 7), (.mv (.t 37)), none⟩] [(1, 3), (1, 6), (1, 8), (0, 14), (1, 14), (3, 14), (6, 14), (8, 14), (11, 14), (1, 15), (11, 15), (14, 15)]) (.seq (.reg [⟨(some 38), (.mv (.t 7)), none⟩, ⟨(some 39), (.bin .neq (.t 38) (.c (.int .i64 0))), none⟩]) (.cond (.t 39) (.seq (.reg [⟨(some 40), (.mv (.t 5)), none⟩, ⟨(some 41), (.mv (.t 7)), none⟩, ⟨(some 2), (.mv (.c .nil)), none⟩, ⟨(some 3), (.mv (.t 40)), none⟩, ⟨(some 4), (.mv (.t 41)), none⟩]) .ret) .skip))))) (.reg [⟨(some 42), (.bin .add (.t 13) (.c (.int .i64 1))), none⟩, ⟨(some 13), (.mv (.t 42)), none⟩])))))))) (.seq (.reg [⟨(some 43), (.mv (.t 0)), none⟩, ⟨(some 44), (.call 55 [.ro] [(.t 43)]), none⟩, ⟨(some 2), (.mv (.t 44)), none⟩, ⟨(some 3), (.mv (.c (.int .i64 0))), none⟩, ⟨(some 4), (.mv (.c (.int .i64 0))), none⟩]) .ret))))
def F14 : F := ⟨1, 45, [0], [(.tsl 2 97 5), (.tmp 3), (.tmp 4)], B14⟩
set_option maxRecDepth 100000 in
theorem comp14 : compF Try.prog 14 = some F14 := by kernel_rfl
def B15 : C := (.seq (.reg [⟨(some 2), (.mv (.c .nil)), none⟩]) (.seq (.reg [⟨(some 3), (.mv (.t 0)), none⟩, ⟨(some 4), (.cpy 47 2 24 (.t 3)), none⟩, ⟨(some 2), (.mv (.t 4)), none⟩]) .ret))
def F15 : F := ⟨1, 5, [0], [(.tsl 2 47 2)], B15⟩
set_option maxRecDepth 100000 in
theorem comp15 : compF Try.prog 15 = some F15 := by kernel_rfl
def B16 : C := (.seq (.reg [⟨(some 2), (.mv (.c (.int .i64 0))), none⟩, ⟨(some 3), (.mv (.c (.int .i64 0))), none⟩]) (.seq (.seq (.reg [⟨(some 7), (.mv (.t 0)), none⟩, ⟨(some 8), (.len (.t 7)), none⟩, ⟨(some 9), (.bin .gtr (.t 8) (.c (.int .i64 120))), none⟩]) (.cond (.t 9) (.seq (.reg [⟨(some 2), (.mv (.c (.int .i64 0))), none⟩, ⟨(some 3), (.mv (.c (.int .i64 2))), none⟩]) .ret) .skip)) (.seq (.seq (.reg [⟨(some 4), (.mv (.c (.int .i64 0))), none⟩]) (.blk 0 (.loop (.seq (.clr 1 [0] [0, 4] [(0, (47, 2))] []) (.seq (.seq (.reg [⟨(some 10), (.mv (.t 4)), none⟩, ⟨(some 11), (.mv (.t 0)), none⟩, ⟨(some 12), (.len (.t 11)), none⟩, ⟨(some 13), (.bin .lss (.t 10) (.t 12)), none⟩]) (.cond (.t 13) .skip (.exit 0))) (.seq (.blk 1 (.seq (.seq (.reg [⟨(some 16), (.mv (.t 0)), none⟩, ⟨(some 17), (.mv (.t 4)), none⟩, ⟨(some 18), (.ia 2 (.t 16) (.t 17)), none⟩, ⟨(some 19), (.ld (some 2) (.t 18)), none⟩, ⟨(some 20), (.call 56 [.ro] [(.t 19)]), none⟩, ⟨(some 5), (.mv (.t 20)), none⟩]) (.seq (.reg [⟨(some 21), (.mv (.t 5)), none⟩, ⟨(some 22), (.bin .neq (.t 21) (.c (.int .i64 0))), none⟩]) (.cond (.t 22) (.seq (.reg [⟨(some 23), (.mv (.t 4)), none⟩, ⟨(some 24), (.mv (.t 5)), none⟩, ⟨(some 2), (.mv (.t 23)), none⟩, ⟨(some 3), (.mv (.t 24)), none⟩]) .ret) .skip))) (.seq (.seq (.reg [⟨(some 25), (.mv (.t 0)), none⟩, ⟨(some 26), (.mv (.t 4)), none⟩, ⟨(some 27), (.ia 2 (.t 25) (.t 26)), none⟩, ⟨(some 28), (.fa 0 1 (.t 27)), none⟩, ⟨(some 29), (.ld none (.t 28)), none⟩, ⟨(some 30), (.lens (.t 29)), none⟩, ⟨(some 31), (.mv (.t 0)), none⟩, ⟨(some 32), (.ia 2 (.t 31) (.c (.int .i64 0))), none⟩, ⟨(some 33), (.fa 0 1 (.t 32)), none⟩, ⟨(some 34), (.ld none (.t 33)), none⟩, ⟨(some 35), (.lens (.t 34)), none⟩, ⟨(some 36), (.bin .neq (.t 30) (.t 35)), none⟩]) (.cond (.t 36) (.seq (.reg [⟨(some 37), (.mv (.t 4)), none⟩, ⟨(some 2), (.mv (.t 37)), none⟩, ⟨(some 3), (.mv (.c (.int .i64 18))), none⟩]) .ret) .skip)) (.seq (.reg [⟨(some 6), (.mv (.c (.int .i64 0))), none⟩]) (.blk 2 (.loop (.seq (.clr 1 [0] [6, 4, 0] [(0, (47, 2))] []) (.seq (.seq (.reg [⟨(some 38), (.mv (.t 6)), none⟩, ⟨(some 39), (.mv (.t 4)), none⟩, ⟨(some 40), (.bin .lss (.t 38) (.t 39)), none⟩]) (.cond (.t 40) .skip (.exit 2))) (.seq (.blk 3 (.seq (.reg [⟨(some 43), (.mv (.t 0)), none⟩, ⟨(some 44), (.mv (.t 6)), none⟩, ⟨(some 45), (.ia 2 (.t 43) (.t 44)), none⟩, ⟨(some 46), (.ld (some 2) (.t 45)), none⟩, ⟨(some 47), (.mv (.t 0)), none⟩, ⟨(some 48), (.mv (.t 4)), none⟩, ⟨(some 49), (.ia 2 (.t 47) (.t 48)), none⟩, ⟨(some 50), (.ld (some 2) (.t 49)), none⟩, ⟨(some 51), (.eqs false [.str, .int] (.t 46) (.t 50)), none⟩]) (.cond (.t 51) (.seq (.reg [⟨(some 52), (.mv (.t 4)), none⟩, ⟨(some 2), (.mv (.t 52)), none⟩, ⟨(some 3), (.mv (.c (.int .i64 13))), none⟩]) .ret) .skip))) (.reg [⟨(some 41), (.mv (.t 6)), none⟩, ⟨(some 42), (.bin .add (.t 41) (.c (.int .i64 1))), none⟩, ⟨(some 6), (.mv (.t 42)), none⟩])))))))))) (.reg [⟨(some 14), (.mv (.t 4)), none⟩, ⟨(some 15), (.bin .add (.t 14) (.c (.int .i64 1))), none⟩, ⟨(some 4), (.mv (.t 15)), none⟩]))))))) (.seq (.reg [⟨(some 2), (.mv (.c (.int .i64 0))), none⟩, ⟨(some 3), (.mv (.c (.int .i64 0))), none⟩]) .ret))))
def F16 : F := ⟨1, 53, [0], [(.tmp 2), (.tmp 3)], B16⟩
set_option maxRecDepth 100000 in
theorem comp16 : compF Try.prog 16 = some F16 := by kernel_rfl
def B17 : C := (.seq (.reg [⟨(some 4), (.mv (.c (.bool false))), none⟩]) (.seq (.seq (.reg [⟨(some 6), (.mv (.t 0)), none⟩, ⟨(some 7), (.len (.t 6)), none⟩, ⟨(some 8), (.mv (.t 1)), none⟩, ⟨(some 9), (.len (.t 8)), none⟩, ⟨(some 10), (.bin .neq (.t 7) (.t 9)), none⟩]) (.cond (.t 10) (.seq (.reg [⟨(some 4), (.mv (.c (.bool false))), none⟩]) .ret) .skip)) (.seq (.seq (.reg [⟨(some 5), (.mv (.c (.int .i64 0))), none⟩]) (.blk 0 (.loop (.seq (.clr 2 [0, 1] [0, 1, 5] [(0, (97, 5)), (1, (97, 5))] []) (.seq (.seq (.reg [⟨(some 11), (.mv (.t 5)), none⟩, ⟨(some 12), (.mv (.t 0)), none⟩, ⟨(some 13), (.len (.t 12)), none⟩, ⟨(some 14), (.bin .lss (.t 11) (.t 13)), none⟩]) (.cond (.t 14) .skip (.exit 0))) (.seq (.blk 1 (.seq (.reg [⟨(some 17), (.mv (.t 0)), none⟩, ⟨(some 18), (.mv (.t 5)), none⟩, ⟨(some 19), (.ia 5 (.t 17) (.t 18)), none⟩, ⟨(some 20), (.ld (some 5) (.t 19)), none⟩, ⟨(some 21), (.mv (.t 1)), none⟩, ⟨(some 22), (.mv (.t 5)), none⟩, ⟨(some 23), (.ia 5 (.t 21) (.t 22)), none⟩, ⟨(some 24), (.ld (some 5) (.t 23)), none⟩, ⟨(some 25), (.call 57 [.ro, .ro] [(.t 20), (.t 24)]), none⟩, ⟨(some 26), (.un .not (.t 25)), none⟩]) (.cond (.t 26) (.seq (.reg [⟨(some 4), (.mv (.c (.bool false))), none⟩]) .ret) .skip))) (.reg [⟨(some 15), (.mv (.t 5)), none⟩, ⟨(some 16), (.bin .add (.t 15) (.c (.int .i64 1))), none⟩, ⟨(some 5), (.mv (.t 16)), none⟩]))))))) (.seq (.reg [⟨(some 4), (.mv (.c (.bool true))), none⟩]) .ret))))
def F17 : F := ⟨2, 27, [0, 1], [(.tmp 4)], B17⟩
set_option maxRecDepth 100000 in
theorem comp17 : compF Try.prog 17 = some F17 := by kernel_rfl
def B18 : C := (.seq (.reg [⟨(some 2), (.mv (.c .nil)), none⟩]) (.seq (.seq (.reg [⟨(some 3), (.mv (.t 0)), none⟩, ⟨(some 4), (.len (.t 3)), none⟩, ⟨(some 5), (.bin .eql (.t 4) (.c (.int .i64 0))), none⟩]) (.cond (.t 5) (.seq (.reg [⟨(some 2), (.mv (.c .nil)), none⟩]) .ret) .skip)) (.seq (.reg [⟨(some 6), (.mv (.t 0)), none⟩, ⟨(some 7), (.call 60 [.ro] [(.t 6)]), none⟩, ⟨(some 8), (.call 59 [.ro] [(.t 7)]), none⟩, ⟨(some 9), (.call 58 [(.io 97 5), .ro] [(.c .nil), (.t 8)]), none⟩, ⟨(some 2), (.mv (.t 9)), none⟩]) .ret)))
def F18 : F := ⟨1, 10, [0], [(.tsl 2 97 5)], B18⟩
set_option maxRecDepth 100000 in
theorem comp18 : compF Try.prog 18 = some F18 := by kernel_rfl
def B29 : C := (.seq (.reg [⟨(some 6), (.mv (.c (.bool false))), none⟩]) (.seq (.reg [⟨(some 7), (.mv (.t 1)), none⟩, ⟨(some 8), (.mv (.t 0)), none⟩, ⟨(some 9), (.bin .leq (.t 7) (.t 8)), none⟩, ⟨(some 10), (.mv (.t 9)), none⟩, ⟨(some 11), (.mv (.t 0)), (some (10, true))⟩, ⟨(some 12), (.mv (.t 2)), (some (10, true))⟩, ⟨(some 13), (.bin .leq (.t 11) (.t 12)), (some (10, true))⟩, ⟨(some 14), (.pick (.t 10) (.t 13) (.c (.bool false))), none⟩, ⟨(some 6), (.mv (.t 14)), none⟩]) .ret))
def F29 : F := ⟨3, 15, [], [(.tmp 6)], B29⟩
set_option maxRecDepth 100000 in
theorem comp29 : compF Try.prog 29 = some F29 := by kernel_rfl
def B34 : C := (.seq (.reg [⟨(some 2), (.mv (.c (.int .i64 0))), none⟩]) (.seq (.seq (.reg [⟨(some 3), (.mv (.t 0)), none⟩]) (.cond (.t 3) (.seq (.reg [⟨(some 2), (.mv (.c (.int .i64 1))), none⟩]) .ret) .skip)) (.seq (.reg [⟨(some 2), (.mv (.c (.int .i64 0))), none⟩]) .ret)))
def F34 : F := ⟨1, 4, [], [(.tmp 2)], B34⟩
set_option maxRecDepth 100000 in
theorem comp34 : compF Try.prog 34 = some F34 := by kernel_rfl
def B37 : C := (.seq (.reg [⟨(some 4), (.mv (.c (.bool false))), none⟩]) (.seq (.seq (.reg [⟨(some 6), (.mv (.t 0)), none⟩, ⟨(some 7), (.len (.t 6)), none⟩, ⟨(some 8), (.mv (.t 1)), none⟩, ⟨(some 9), (.len (.t 8)), none⟩, ⟨(some 10), (.bin .neq (.t 7) (.t 9)), none⟩]) (.cond (.t 10) (.seq (.reg [⟨(some 4), (.mv (.c (.bool false))), none⟩]) .ret) .skip)) (.seq (.seq (.reg [⟨(some 5), (.mv (.c (.int .i64 0))), none⟩]) (.blk 0 (.loop (.seq (.clr 2 [0, 1] [0, 1, 5] [(0, (3, 1)), (1, (3, 1))] []) (.seq (.seq (.reg [⟨(some 11), (.mv (.t 5)), none⟩, ⟨(some 12), (.mv (.t 0)), none⟩, ⟨(some 13), (.len (.t 12)), none⟩, ⟨(some 14), (.bin .lss (.t 11) (.t 13)), none⟩]) (.cond (.t 14) .skip (.exit 0))) (.seq (.blk 1 (.seq (.reg [⟨(some 17), (.mv (.t 0)), none⟩, ⟨(some 18), (.mv (.t 5)), none⟩, ⟨(some 19), (.ia 1 (.t 17) (.t 18)), none⟩, ⟨(some 20), (.ld none (.t 19)), none⟩, ⟨(some 21), (.mv (.t 1)), none⟩, ⟨(some 22), (.mv (.t 5)), none⟩, ⟨(some 23), (.ia 1 (.t 21) (.t 22)), none⟩, ⟨(some 24), (.ld none (.t 23)), none⟩, ⟨(some 25), (.bin .neq (.t 20) (.t 24)), none⟩]) (.cond (.t 25) (.seq (.reg [⟨(some 4), (.mv (.c (.bool false))), none⟩]) .ret) .skip))) (.reg [⟨(some 15), (.mv (.t 5)), none⟩, ⟨(some 16), (.bin .add (.t 15) (.c (.int .i64 1))), none⟩, ⟨(some 5), (.mv (.t 16)), none⟩]))))))) (.seq (.reg [⟨(some 4), (.mv (.c (.bool true))), none⟩]) .ret))))
def F37 : F := ⟨2, 26, [0, 1], [(.tmp 4)], B37⟩
set_option maxRecDepth 100000 in
theorem comp37 : compF Try.prog 37 = some F37 := by kernel_rfl
def B50 : C := (.seq (.reg [⟨(some 0), (.mv (.c .nil)), none⟩]) (.seq (.reg [⟨(some 1), (.bld [(.str (bs [])), (.int .i64 0)] [(0, (1, (.c (.str (bs [65]))))), (1, (1, (.c (.int .i64 1))))]), none⟩, ⟨(some 2), (.bld [(.str (bs [])), (.int .i64 0)] [(0, (1, (.c (.str (bs [67]))))), (1, (1, (.c (.int .i64 2))))]), none⟩, ⟨(some 3), (.lit 47 2 [(.t 1), (.t 2)]), none⟩, ⟨(some 0), (.mv (.t 3)), none⟩]) .ret))
def F50 : F := ⟨0, 4, [], [(.tsl 0 47 2)], B50⟩
set_option maxRecDepth 100000 in
theorem comp50 : compF Try.prog 50 = some F50 := by kernel_rfl
def B51 : C := (.seq (.reg [⟨(some 2), (.mv (.c (.int .i64 0))), none⟩]) (.seq (.seq (.reg [⟨(some 5), (.mv (.t 0)), none⟩, ⟨(some 6), (.len (.t 5)), none⟩, ⟨(some 7), (.mv (.c (.int .i64 0))), none⟩]) (.blk 0 (.loop (.seq (.clr 1 [0] [5, 6, 7] [(5, (26, 1))] []) (.seq (.reg [⟨(some 8), (.bin .lss (.t 7) (.t 6)), none⟩]) (.seq (.cond (.t 8) .skip (.exit 0)) (.seq (.blk 1 (.seq (.reg [⟨(some 9), (.ia 1 (.t 5) (.t 7)), none⟩, ⟨(some 10), (.ld none (.t 9)), none⟩, ⟨(some 4), (.mv (.t 10)), none⟩]) (.seq (.reg [⟨(some 11), (.mv (.t 4)), none⟩, ⟨(some 12), (.bin .neq (.t 11) (.c (.int .i64 0))), none⟩]) (.cond (.t 12) (.seq (.reg [⟨(some 13), (.mv (.t 4)), none⟩, ⟨(some 2), (.mv (.t 13)), none⟩]) .ret) .skip)))) (.reg [⟨(some 14), (.bin .add (.t 7) (.c (.int .i64 1))), none⟩, ⟨(some 7), (.mv (.t 14)), none⟩])))))))) (.seq (.reg [⟨(some 2), (.mv (.c (.int .i64 0))), none⟩]) .ret)))
def F51 : F := ⟨1, 15, [0], [(.tmp 2)], B51⟩
set_option maxRecDepth 100000 in
theorem comp51 : compF Try.prog 51 = some F51 := by kernel_rfl
def B52 : C := (.seq (.reg [⟨(some 1), (.box (.t 0)), none⟩, ⟨(some 2), (.mv (.c (.int .i64 0))), none⟩]) (.seq (.drw [⟨(some 3), (.fa 0 1 (.t 1)), none⟩, ⟨(some 4), (.ld none (.t 3)), none⟩, ⟨(some 5), (.bin .eql (.t 4) (.c (.str (bs [])))), none⟩, ⟨(some 6), (.mv (.t 5)), none⟩, ⟨(some 7), (.fa 0 1 (.t 1)), (some (6, false))⟩, ⟨(some 8), (.ld none (.t 7)), (some (6, false))⟩, ⟨(some 9), (.lens (.t 8)), (some (6, false))⟩, ⟨(some 10), (.bin .gtr (.t 9) (.c (.int .i64 256))), (some (6, false))⟩, ⟨(some 11), (.pick (.t 6) (.c (.bool true)) (.t 10)), none⟩, ⟨(some 12), (.call 53 [.ro, .ro] [(.t 11), (.c (.int .i64 18))]), none⟩, ⟨(some 13), (.fa 1 1 (.t 1)), none⟩, ⟨(some 14), (.ld none (.t 13)), none⟩, ⟨(some 15), (.bin .lss (.t 14) (.c (.int .i64 1))), none⟩, ⟨(some 16), (.mv (.t 15)), none⟩, ⟨(some 17), (.fa 1 1 (.t 1)), (some (16, false))⟩, ⟨(some 18), (.ld none (.t 17)), (some (16, false))⟩, ⟨(some 19), (.bin .gtr (.t 18) (.c (.int .i64 60))), (some (16, false))⟩, ⟨(some 20), (.pick (.t 16) (.c (.bool true)) (.t 19)), none⟩, ⟨(some 21), (.call 53 [.ro, .ro] [(.t 20), (.c (.int .i64 3))]), none⟩, ⟨(some 22), (.lit 26 1 [(.t 12), (.t 21)]), none⟩, ⟨(some 23), (.call 51 [.ro] [(.t 22)]), none⟩, ⟨(some 2), (.mv (.t 23)), none⟩] [(9, 11)]) .ret))
def F52 : F := ⟨1, 24, [], [(.tmp 2)], B52⟩
set_option maxRecDepth 100000 in
theorem comp52 : compF Try.prog 52 = some F52 := by kernel_rfl
def B53 : C := (.seq (.reg [⟨(some 4), (.mv (.c (.int .i64 0))), none⟩]) (.seq (.seq (.reg [⟨(some 5), (.mv (.t 0)), none⟩]) (.cond (.t 5) (.seq (.reg [⟨(some 6), (.mv (.t 1)), none⟩, ⟨(some 4), (.mv (.t 6)), none⟩]) .ret) .skip)) (.seq (.reg [⟨(some 4), (.mv (.c (.int .i64 0))), none⟩]) .ret)))
def F53 : F := ⟨2, 7, [], [(.tmp 4)], B53⟩
set_option maxRecDepth 100000 in
theorem comp53 : compF Try.prog 53 = some F53 := by kernel_rfl
def B54 : C := (.seq (.reg [⟨(some 3), (.box (.t 1)), none⟩, ⟨(some 4), (.mv (.c (.bool false))), none⟩]) (.seq (.reg [⟨(some 5), (.mv (.t 0)), none⟩, ⟨(some 6), (.ld (some 2) (.t 3)), none⟩, ⟨(some 7), (.call 76 [.ro, .ro] [(.t 5), (.t 6)]), none⟩, ⟨(some 8), (.bin .geq (.t 7) (.c (.int .i64 0))), none⟩, ⟨(some 4), (.mv (.t 8)), none⟩]) .ret))
def F54 : F := ⟨2, 9, [0], [(.tmp 4)], B54⟩
set_option maxRecDepth 100000 in
theorem comp54 : compF Try.prog 54 = some F54 := by kernel_rfl
def B55 : C := (.seq (.reg [⟨(some 2), (.mv (.c .nil)), none⟩]) (.seq (.seq (.reg [⟨(some 3), (.mv (.t 0)), none⟩, ⟨(some 4), (.len (.t 3)), none⟩, ⟨(some 5), (.bin .eql (.t 4) (.c (.int .i64 0))), none⟩]) (.cond (.t 5) (.seq (.reg [⟨(some 2), (.mv (.c .nil)), none⟩]) .ret) .skip)) (.seq (.reg [⟨(some 6), (.mv (.t 0)), none⟩, ⟨(some 7), (.call 89 [.ro] [(.t 6)]), none⟩, ⟨(some 8), (.call 88 [.ro, .ro] [(.t 7), (.c (.fn 90 []))]), none⟩, ⟨(some 9), (.call 87 [(.io 97 5), .ro] [(.c .nil), (.t 8)]), none⟩, ⟨(some 2), (.mv (.t 9)), none⟩]) .ret)))
def F55 : F := ⟨1, 10, [0], [(.tsl 2 97 5)], B55⟩
set_option maxRecDepth 100000 in
theorem comp55 : compF Try.prog 55 = some F55 := by kernel_rfl
def B56 : C := (.seq (.reg [⟨(some 1), (.box (.t 0)), none⟩, ⟨(some 2), (.mv (.c (.int .i64 0))), none⟩]) (.seq (.seq (.reg [⟨(some 3), (.fa 0 1 (.t 1)), none⟩, ⟨(some 4), (.ld none (.t 3)), none⟩, ⟨(some 5), (.lens (.t 4)), none⟩, ⟨(some 6), (.call 29 [.ro, .ro, .ro] [(.t 5), (.c (.int .i64 1)), (.c (.int .i64 256))]), none⟩, ⟨(some 7), (.un .not (.t 6)), none⟩]) (.cond (.t 7) (.seq (.reg [⟨(some 2), (.mv (.c (.int .i64 18))), none⟩]) .ret) .skip)) (.seq (.reg [⟨(some 8), (.fa 1 1 (.t 1)), none⟩, ⟨(some 9), (.ld none (.t 8)), none⟩, ⟨(some 10), (.call 29 [.ro, .ro, .ro] [(.t 9), (.c (.int .i64 1)), (.c (.int .i64 60))]), none⟩, ⟨(some 11), (.un .not (.t 10)), none⟩, ⟨(some 12), (.call 34 [.ro] [(.t 11)]), none⟩, ⟨(some 13), (.bin .mul (.c (.int .i64 3)) (.t 12)), none⟩, ⟨(some 2), (.mv (.t 13)), none⟩]) .ret)))
def F56 : F := ⟨1, 14, [], [(.tmp 2)], B56⟩
set_option maxRecDepth 100000 in
theorem comp56 : compF Try.prog 56 = some F56 := by kernel_rfl
def B57 : C := (.seq (.reg [⟨(some 2), (.box (.t 0)), none⟩, ⟨(some 3), (.box (.t 1)), none⟩, ⟨(some 4), (.mv (.c (.bool false))), none⟩]) (.seq (.reg [⟨(some 5), (.fa 0 1 (.t 2)), none⟩, ⟨(some 6), (.ld none (.t 5)), none⟩, ⟨(some 7), (.fa 0 1 (.t 3)), none⟩, ⟨(some 8), (.ld none (.t 7)), none⟩, ⟨(some 9), (.bin .eql (.t 6) (.t 8)), none⟩, ⟨(some 10), (.mv (.t 9)), none⟩, ⟨(some 11), (.fa 1 1 (.t 2)), (some (10, true))⟩, ⟨(some 12), (.ld none (.t 11)), (some (10, true))⟩, ⟨(some 13), (.fa 1 1 (.t 3)), (some (10, true))⟩, ⟨(some 14), (.ld none (.t 13)), (some (10, true))⟩, ⟨(some 15), (.bin .eql (.t 12) (.t 14)), (some (10, true))⟩, ⟨(some 16), (.pick (.t 10) (.t 15) (.c (.bool false))), none⟩, ⟨(some 17), (.mv (.t 16)), none⟩, ⟨(some 18), (.fa 2 1 (.t 2)), (some (17, true))⟩, ⟨(some 19), (.ld none (.t 18)), (some (17, true))⟩, ⟨(some 20), (.fa 2 1 (.t 3)), (some (17, true))⟩, ⟨(some 21), (.ld none (.t 20)), (some (17, true))⟩, ⟨(some 22), (.bin .eql (.t 19) (.t 21)), (some (17, true))⟩, ⟨(some 23), (.pick (.t 17) (.t 22) (.c (.bool false))), none⟩, ⟨(some 24), (.mv (.t 23)), none⟩, ⟨(some 25), (.fa 3 1 (.t 2)), (some (24, true))⟩, ⟨(some 26), (.ld none (.t 25)), (some (24, true))⟩, ⟨(some 27), (.fa 3 1 (.t 3)), (some (24, true))⟩, ⟨(some 28), (.ld none (.t 27)), (some (24, true))⟩, ⟨(some 29), (.bin .eql (.t 26) (.t 28)), (some (24, true))⟩, ⟨(some 30), (.pick (.t 24) (.t 29) (.c (.bool false))), none⟩, ⟨(some 31), (.mv (.t 30)), none⟩, ⟨(some 32), (.fa 4 1 (.t 2)), (some (31, true))⟩, ⟨(some 33), (.ld none (.t 32)), (some (31, true))⟩, ⟨(some 34), (.fa 4 1 (.t 3)), (some (31, true))⟩, ⟨(some 35), (.ld none (.t 34)), (some (31, true))⟩, ⟨(some 36), (.call 37 [.ro, .ro] [(.t 33), (.t 35)]), (some (31, true))⟩, ⟨(some 37), (.pick (.t 31) (.t 36) (.c (.bool false))), none⟩, ⟨(some 4), (.mv (.t 37)), none⟩]) .ret))
def F57 : F := ⟨2, 38, [], [(.tmp 4)], B57⟩
set_option maxRecDepth 100000 in
theorem comp57 : compF Try.prog 57 = some F57 := by kernel_rfl
def B58 : C := (.seq (.reg [⟨(some 4), (.mv (.c .nil)), none⟩]) (.seq (.seq (.reg [⟨(some 8), (.mv (.t 1)), none⟩, ⟨(some 9), (.len (.t 8)), none⟩, ⟨(some 10), (.bin .eql (.t 9) (.c (.int .i64 1))), none⟩]) (.cond (.t 10) (.seq (.reg [⟨(some 11), (.mv (.t 0)), none⟩, ⟨(some 12), (.mv (.t 1)), none⟩, ⟨(some 13), (.ia 2 (.t 12) (.c (.int .i64 0))), none⟩, ⟨(some 14), (.fa 0 1 (.t 13)), none⟩, ⟨(some 15), (.ld none (.t 14)), none⟩, ⟨(some 16), (.mv (.t 1)), none⟩, ⟨(some 17), (.ia 2 (.t 16) (.c (.int .i64 0))), none⟩, ⟨(some 18), (.fa 1 1 (.t 17)), none⟩, ⟨(some 19), (.ld none (.t 18)), none⟩, ⟨(some 20), (.bld [(.int .i64 0), (.int .i64 0), (.int .i64 0), (.str (bs [])), .nil] [(0, (1, (.c (.int .i64 (-1))))), (3, (1, (.t 15))), (4, (1, (.t 19)))]), none⟩, ⟨(some 21), (.lit 97 5 [(.t 20)]), none⟩, ⟨(some 22), (.app 97 5 64 (.t 11) (.t 21)), none⟩, ⟨(some 4), (.mv (.t 22)), none⟩]) .ret) .skip)) (.seq (.reg [⟨(some 5), (.mv (.c (.int .i64 0))), none⟩]) (.seq (.blk 0 (.loop (.seq (.clr 2 [0, 1] [0, 5, 1] [(0, (97, 5)), (1, (140, 2)), (0, (97, 5))] []) (.seq (.seq (.drw [⟨(some 23), (.mv (.t 1)), none⟩, ⟨(some 24), (.ia 2 (.t 23) (.c (.int .i64 0))), none⟩, ⟨(some 25), (.fa 0 1 (.t 24)), none⟩, ⟨(some 26), (.ld none (.t 25)), none⟩, ⟨(some 27), (.mv (.t 5)), none⟩, ⟨(some 28), (.call 73 [.ro, .ro] [(.t 26), (.t 27)]), none⟩, ⟨(some 29), (.mv (.t 1)), none⟩, ⟨(some 30), (.mv (.t 1)), none⟩, ⟨(some 31), (.len (.t 30)), none⟩, ⟨(some 32), (.bin .sub (.t 31) (.c (.int .i64 1))), none⟩, ⟨(some 33), (.ia 2 (.t 29) (.t 32)), none⟩, ⟨(some 34), (.fa 0 1 (.t 33)), none⟩, ⟨(some 35), (.ld none (.t 34)), none⟩, ⟨(some 36), (.mv (.t 5)), none⟩, ⟨(some 37), (.call 73 [.ro, .ro] [(.t 35), (.t 36)]), none⟩, ⟨(some 38), (.bin .eql (.t 28) (.t 37)), none⟩] [(5, 8), (5, 10), (5, 12)]) (.cond (.t 38) .skip (.exit 0))) (.blk 1 (.reg [⟨(some 39), (.mv (.t 5)), none⟩, ⟨(some 40), (.bin .add (.t 39) (.c (.int .i64 1))), none⟩, ⟨(some 5), (.mv (.t 40)), none⟩])))))) (.seq (.reg [⟨(some 6), (.mv (.c (.int .i64 0))), none⟩]) (.seq (.blk 2 (.loop (.seq (.clr 2 [0, 1] [0, 5, 1, 6] [(0, (97, 5)), (1, (140, 2)), (0, (97, 5))] []) (.seq (.seq (.reg [⟨(some 41), (.mv (.t 1)), none⟩, ⟨(some 42), (.mv (.t 6)), none⟩, ⟨(some 43), (.ia 2 (.t 41) (.t 42)), none⟩, ⟨(some 44), (.fa 0 1 (.t 43)), none⟩, ⟨(some 45), (.ld none (.t 44)), none⟩, ⟨(some 46), (.mv (.t 5)), none⟩, ⟨(some 47), (.call 73 [.ro, .ro] [(.t 45), (.t 46)]), none⟩, ⟨(some 48), (.bin .eql (.t 47) (.c (.int .i64 0))), none⟩]) (.cond (.t 48) .skip (.exit 2))) (.blk 3 (.reg [⟨(some 49), (.mv (.t 6)), none⟩, ⟨(some 50), (.bin .add (.t 49) (.c (.int .i64 1))), none⟩, ⟨(some 6), (.mv (.t 50)), none⟩])))))) (.seq (.reg [⟨(some 51), (.mv (.t 0)), none⟩, ⟨(some 52), (.len (.t 51)), none⟩, ⟨(some 7), (.mv (.t 52)), none⟩]) (.seq (.reg [⟨(some 53), (.mv (.t 0)), none⟩, ⟨(some 54), (.mv (.t 5)), none⟩, ⟨(some 55), (.mv (.t 7)), none⟩, ⟨(some 56), (.bin .add (.t 55) (.c (.int .i64 1))), none⟩, ⟨(some 57), (.bld [(.int .i64 0), (.int .i64 0), (.int .i64 0), (.str (bs [])), .nil] [(0, (1, (.t 54))), (1, (1, (.t 56)))]), none⟩, ⟨(some 58), (.lit 97 5 [(.t 57)]), none⟩, ⟨(some 59), (.app 97 5 64 (.t 53) (.t 58)), none⟩, ⟨(some 0), (.mv (.t 59)), none⟩]) (.seq (.reg [⟨(some 60), (.mv (.t 0)), none⟩, ⟨(some 61), (.mv (.t 1)), none⟩, ⟨(some 62), (.mv (.t 6)), none⟩, ⟨(some 63), (.sub 2 (.t 61) none (some (.t 62))), none⟩, ⟨(some 64), (.call 58 [(.io 97 5), .ro] [(.t 60), (.t 63)]), none⟩, ⟨(some 0), (.mv (.t 64)), none⟩]) (.seq (.reg [⟨(some 65), (.mv (.t 0)), none⟩, ⟨(some 66), (.mv (.t 7)), none⟩, ⟨(some 67), (.mv (.t 0)), none⟩, ⟨(some 68), (.len (.t 67)), none⟩, ⟨(some 69), (.ia 5 (.t 65) (.t 66)), none⟩, ⟨(some 70), (.fa 2 1 (.t 69)), none⟩, ⟨none, (.st 1 (.t 70) (.t 68)), none⟩]) (.seq (.reg [⟨(some 71), (.mv (.t 0)), none⟩, ⟨(some 72), (.mv (.t 1)), none⟩, ⟨(some 73), (.mv (.t 6)), none⟩, ⟨(some 74), (.sub 2 (.t 72) (some (.t 73)) none), none⟩, ⟨(some 75), (.call 58 [(.io 97 5), .ro] [(.t 71), (.t 74)]), none⟩, ⟨(some 4), (.mv (.t 75)), none⟩]) .ret)))))))))))
def F58 : F := ⟨2, 76, [0, 1], [(.tsl 4 97 5)], B58⟩
set_option maxRecDepth 100000 in
theorem comp58 : compF Try.prog 58 = some F58 := by kernel_rfl
def B59 : C := (.seq (.reg [⟨(some 2), (.mv (.c .nil)), none⟩]) (.seq (.reg [⟨(some 3), (.mv (.c .nil)), none⟩]) (.seq (.seq (.reg [⟨(some 4), (.mv (.c (.int .i64 0))), none⟩]) (.blk 0 (.loop (.seq (.clr 1 [0] [0, 4, 3] [(0, (47, 2)), (3, (140, 2))] []) (.seq (.seq (.reg [⟨(some 6), (.mv (.t 4)), none⟩, ⟨(some 7), (.mv (.t 0)), none⟩, ⟨(some 8), (.len (.t 7)), none⟩, ⟨(some 9), (.bin .lss (.t 6) (.t 8)), none⟩]) (.cond (.t 9) .skip (.exit 0))) (.seq (.blk 1 (.seq (.reg [⟨(some 12), (.mv (.t 3)), none⟩, ⟨(some 13), (.len (.t 12)), none⟩, ⟨(some 5), (.mv (.t 13)), none⟩]) (.seq (.reg [⟨(some 14), (.mv (.t 5)), none⟩, ⟨(some 15), (.bin .gtr (.t 14) (.c (.int .i64 0))), none⟩, ⟨(some 16), (.mv (.t 15)), none⟩, ⟨(some 17), (.mv (.t 3)), (some (16, true))⟩, ⟨(some 18), (.mv (.t 5)), (some (16, true))⟩, ⟨(some 19), (.bin .sub (.t 18) (.c (.int .i64 1))), (some (16, true))⟩, ⟨(some 20), (.ia 2 (.t 17) (.t 19)), (some (16, true))⟩, ⟨(some 21), (.fa 0 1 (.t 20)), (some (16, true))⟩, ⟨(some 22), (.ld none (.t 21)), (some (16, true))⟩, ⟨(some 23), (.mv (.t 0)), (some (16, true))⟩, ⟨(some 24), (.mv (.t 4)), (some (16, true))⟩, ⟨(some 25), (.ia 2 (.t 23) (.t 24)), (some (16, true))⟩, ⟨(some 26), (.fa 0 1 (.t 25)), (some (16, true))⟩, ⟨(some 27), (.ld none (.t 26)), (some (16, true))⟩, ⟨(some 28), (.bin .eql (.t 22) (.t 27)), (some (16, true))⟩, ⟨(some 29), (.pick (.t 16) (.t 28) (.c (.bool false))), none⟩]) (.cond (.t 29) (.drw [⟨(some 30), (.mv (.t 3)), none⟩, ⟨(some 31), (.mv (.t 5)), none⟩, ⟨(some 32), (.bin .sub (.t 31) (.c (.int .i64 1))), none⟩, ⟨(some 33), (.mv (.t 3)), none⟩, ⟨(some 34), (.mv (.t 5)), none⟩, ⟨(some 35), (.bin .sub (.t 34) (.c (.int .i64 1))), none⟩, ⟨(some 36), (.ia 2 (.t 33) (.t 35)), none⟩, ⟨(some 37), (.fa 1 1 (.t 36)), none⟩, ⟨(some 38), (.ld none (.t 37)), none⟩, ⟨(some 39), (.mv (.t 0)), none⟩, ⟨(some 40), (.mv (.t 4)), none⟩, ⟨(some 41), (.ia 2 (.t 39) (.t 40)), none⟩, ⟨(some 42), (.fa 1 1 (.t 41)), none⟩, ⟨(some 43), (.ld none (.t 42)), none⟩, ⟨(some 44), (.lit 3 1 [(.t 43)]), none⟩, ⟨(some 45), (.app 3 1 8 (.t 38) (.t 44)), none⟩, ⟨(some 46), (.ia 2 (.t 30) (.t 32)), none⟩, ⟨(some 47), (.fa 1 1 (.t 46)), none⟩, ⟨none, (.st 1 (.t 47) (.t 45)), none⟩] [(6, 14), (8, 14)]) (.drw [⟨(some 48), (.mv (.t 3)), none⟩, ⟨(some 49), (.mv (.t 0)), none⟩, ⟨(some 50), (.mv (.t 4)), none⟩, ⟨(some 51), (.ia 2 (.t 49) (.t 50)), none⟩, ⟨(some 52), (.fa 0 1 (.t 51)), none⟩, ⟨(some 53), (.ld none (.t 52)), none⟩, ⟨(some 54), (.mv (.t 0)), none⟩, ⟨(some 55), (.mv (.t 4)), none⟩, ⟨(some 56), (.ia 2 (.t 54) (.t 55)), none⟩, ⟨(some 57), (.fa 1 1 (.t 56)), none⟩, ⟨(some 58), (.ld none (.t 57)), none⟩, ⟨(some 59), (.lit 3 1 [(.t 58)]), none⟩, ⟨(some 60), (.bld [(.str (bs [])), .nil] [(0, (1, (.t 53))), (1, (1, (.t 59)))]), none⟩, ⟨(some 61), (.lit 140 2 [(.t 60)]), none⟩, ⟨(some 62), (.app 140 2 40 (.t 48) (.t 61)), none⟩, ⟨(some 3), (.mv (.t 62)), none⟩] [(3, 11), (5, 11)]))))) (.reg [⟨(some 10), (.mv (.t 4)), none⟩, ⟨(some 11), (.bin .add (.t 10) (.c (.int .i64 1))), none⟩, ⟨(some 4), (.mv (.t 11)), none⟩]))))))) (.seq (.reg [⟨(some 63), (.mv (.t 3)), none⟩, ⟨(some 2), (.mv (.t 63)), none⟩]) .ret))))
def F59 : F := ⟨1, 64, [0], [(.tsl 2 140 2)], B59⟩
set_option maxRecDepth 100000 in
theorem comp59 : compF Try.prog 59 = some F59 := by kernel_rfl
def B60 : C := (.seq (.reg [⟨(some 2), (.mv (.c .nil)), none⟩]) (.seq (.reg [⟨(some 3), (.mv (.c .nil)), none⟩]) (.seq (.seq (.reg [⟨(some 4), (.mv (.c (.int .i64 0))), none⟩]) (.blk 0 (.loop (.seq (.clr 1 [0] [0, 4, 3] [(0, (47, 2)), (3, (47, 2))] []) (.seq (.seq (.reg [⟨(some 6), (.mv (.t 4)), none⟩, ⟨(some 7), (.mv (.t 0)), none⟩, ⟨(some 8), (.len (.t 7)), none⟩, ⟨(some 9), (.bin .lss (.t 6) (.t 8)), none⟩]) (.cond (.t 9) .skip (.exit 0))) (.seq (.blk 1 (.seq (.reg [⟨(some 12), (.mv (.t 3)), none⟩, ⟨(some 13), (.len (.t 12)), none⟩, ⟨(some 5), (.mv (.t 13)), none⟩]) (.seq (.reg [⟨(some 14), (.mv (.t 3)), none⟩, ⟨(some 15), (.mv (.t 0)), none⟩, ⟨(some 16), (.mv (.t 4)), none⟩, ⟨(some 17), (.ia 2 (.t 15) (.t 16)), none⟩, ⟨(some 18), (.ld (some 2) (.t 17)), none⟩, ⟨(some 19), (.lit 47 2 [(.t 18)]), none⟩, ⟨(some 20), (.app 47 2 24 (.t 14) (.t 19)), none⟩, ⟨(some 3), (.mv (.t 20)), none⟩]) (.seq (.blk 2 (.loop (.seq (.clr 1 [0] [5, 4, 0, 3] [(0, (47, 2)), (3, (47, 2))] []) (.seq (.seq (.reg [⟨(some 21), (.mv (.t 5)), none⟩, ⟨(some 22), (.bin .gtr (.t 21) (.c (.int .i64 0))), none⟩, ⟨(some 23), (.mv (.t 22)), none⟩, ⟨(some 24), (.mv (.t 0)), (some (23, true))⟩, ⟨(some 25), (.mv (.t 4)), (some (23, true))⟩, ⟨(some 26), (.ia 2 (.t 24) (.t 25)), (some (23, true))⟩, ⟨(some 27), (.ld (some 2) (.t 26)), (some (23, true))⟩, ⟨(some 28), (.mv (.t 3)), (some (23, true))⟩, ⟨(some 29), (.mv (.t 5)), (some (23, true))⟩, ⟨(some 30), (.bin .sub (.t 29) (.c (.int .i64 1))), (some (23, true))⟩, ⟨(some 31), (.ia 2 (.t 28) (.t 30)), (some (23, true))⟩, ⟨(some 32), (.ld (some 2) (.t 31)), (some (23, true))⟩, ⟨(some 33), (.call 91 [.ro, .ro] [(.t 27), (.t 32)]), (some (23, true))⟩, ⟨(some 34), (.pick (.t 23) (.t 33) (.c (.bool false))), none⟩]) (.cond (.t 34) .skip (.exit 2))) (.blk 3 (.seq (.reg [⟨(some 35), (.mv (.t 3)), none⟩, ⟨(some 36), (.mv (.t 5)), none⟩, ⟨(some 37), (.mv (.t 3)), none⟩, ⟨(some 38), (.mv (.t 5)), none⟩, ⟨(some 39), (.bin .sub (.t 38) (.c (.int .i64 1))), none⟩, ⟨(some 40), (.ia 2 (.t 37) (.t 39)), none⟩, ⟨(some 41), (.ld (some 2) (.t 40)), none⟩, ⟨(some 42), (.ia 2 (.t 35) (.t 36)), none⟩, ⟨none, (.st 2 (.t 42) (.t 41)), none⟩]) (.reg [⟨(some 43), (.mv (.t 5)), none⟩, ⟨(some 44), (.bin .sub (.t 43) (.c (.int .i64 1))), none⟩, ⟨(some 5), (.mv (.t 44)), none⟩]))))))) (.reg [⟨(some 45), (.mv (.t 3)), none⟩, ⟨(some 46), (.mv (.t 5)), none⟩, ⟨(some 47), (.mv (.t 0)), none⟩, ⟨(some 48), (.mv (.t 4)), none⟩, ⟨(some 49), (.ia 2 (.t 47) (.t 48)), none⟩, ⟨(some 50), (.ld (some 2) (.t 49)), none⟩, ⟨(some 51), (.ia 2 (.t 45) (.t 46)), none⟩, ⟨none, (.st 2 (.t 51) (.t 50)), none⟩]))))) (.reg [⟨(some 10), (.mv (.t 4)), none⟩, ⟨(some 11), (.bin .add (.t 10) (.c (.int .i64 1))), none⟩, ⟨(some 4), (.mv (.t 11)), none⟩]))))))) (.seq (.reg [⟨(some 52), (.mv (.t 3)), none⟩, ⟨(some 2), (.mv (.t 52)), none⟩]) .ret))))
def F60 : F := ⟨1, 53, [0], [(.tsl 2 47 2)], B60⟩
set_option maxRecDepth 100000 in
theorem comp60 : compF Try.prog 60 = some F60 := by kernel_rfl
def B73 : C := (.seq (.reg [⟨(some 4), (.mv (.c (.int .i64 0))), none⟩]) (.seq (.reg [⟨(some 5), (.mv (.t 0)), none⟩, ⟨(some 6), (.mv (.t 1)), none⟩, ⟨(some 7), (.bin .quo (.t 6) (.c (.int .i64 8))), none⟩, ⟨(some 8), (.ix (.t 5) (.t 7)), none⟩, ⟨(some 9), (.cvi .i64 (.t 8)), none⟩, ⟨(some 10), (.mv (.t 1)), none⟩, ⟨(some 11), (.bin .rem (.t 10) (.c (.int .i64 8))), none⟩, ⟨(some 12), (.bin .sub (.c (.int .i64 7)) (.t 11)), none⟩, ⟨(some 13), (.bin .shr (.t 9) (.t 12)), none⟩, ⟨(some 14), (.bin .and (.t 13) (.c (.int .i64 1))), none⟩, ⟨(some 4), (.mv (.t 14)), none⟩]) .ret))
def F73 : F := ⟨2, 15, [], [(.tmp 4)], B73⟩
set_option maxRecDepth 100000 in
theorem comp73 : compF Try.prog 73 = some F73 := by kernel_rfl
def B76 : C := (.seq (.reg [⟨(some 3), (.box (.t 1)), none⟩, ⟨(some 4), (.mv (.c (.int .i64 0))), none⟩]) (.seq (.seq (.reg [⟨(some 6), (.mv (.t 0)), none⟩, ⟨(some 7), (.len (.t 6)), none⟩, ⟨(some 8), (.mv (.c (.int .i64 0))), none⟩]) (.blk 0 (.loop (.seq (.clr 2 [0] [3, 0, 7, 8] [(0, (47, 2))] []) (.seq (.reg [⟨(some 9), (.bin .lss (.t 8) (.t 7)), none⟩]) (.seq (.cond (.t 9) .skip (.exit 0)) (.seq (.blk 1 (.seq (.reg [⟨(some 10), (.mv (.t 8)), none⟩, ⟨(some 5), (.mv (.t 10)), none⟩]) (.seq (.reg [⟨(some 11), (.ld (some 2) (.t 3)), none⟩, ⟨(some 12), (.mv (.t 0)), none⟩, ⟨(some 13), (.mv (.t 5)), none⟩, ⟨(some 14), (.ia 2 (.t 12) (.t 13)), none⟩, ⟨(some 15), (.ld (some 2) (.t 14)), none⟩, ⟨(some 16), (.eqs false [.str, .int] (.t 11) (.t 15)), none⟩]) (.cond (.t 16) (.seq (.reg [⟨(some 17), (.mv (.t 5)), none⟩, ⟨(some 4), (.mv (.t 17)), none⟩]) .ret) .skip)))) (.reg [⟨(some 18), (.bin .add (.t 8) (.c (.int .i64 1))), none⟩, ⟨(some 8), (.mv (.t 18)), none⟩])))))))) (.seq (.reg [⟨(some 4), (.mv (.c (.int .i64 (-1)))), none⟩]) .ret)))
def F76 : F := ⟨2, 19, [0], [(.tmp 4)], B76⟩
set_option maxRecDepth 100000 in
theorem comp76 : compF Try.prog 76 = some F76 := by kernel_rfl
def B87 : C := (.seq (.reg [⟨(some 4), (.mv (.c .nil)), none⟩]) (.seq (.reg [⟨(some 13), (.mv (.t 1)), none⟩, ⟨(some 14), (.ia 2 (.t 13) (.c (.int .i64 0))), none⟩, ⟨(some 15), (.fa 0 1 (.t 14)), none⟩, ⟨(some 16), (.ld none (.t 15)), none⟩, ⟨(some 17), (.mv (.t 1)), none⟩, ⟨(some 18), (.mv (.t 1)), none⟩, ⟨(some 19), (.len (.t 18)), none⟩, ⟨(some 20), (.bin .sub (.t 19) (.c (.int .i64 1))), none⟩, ⟨(some 21), (.ia 2 (.t 17) (.t 20)), none⟩, ⟨(some 22), (.fa 0 1 (.t 21)), none⟩, ⟨(some 23), (.ld none (.t 22)), none⟩, ⟨(some 5), (.mv (.t 16)), none⟩, ⟨(some 6), (.mv (.t 23)), none⟩]) (.seq (.seq (.reg [⟨(some 24), (.mv (.t 5)), none⟩, ⟨(some 25), (.mv (.t 6)), none⟩, ⟨(some 26), (.bin .eql (.t 24) (.t 25)), none⟩]) (.cond (.t 26) (.seq (.reg [⟨(some 27), (.mv (.t 5)), none⟩, ⟨(some 28), (.bld [(.int .i64 0), (.int .i64 0), (.int .i64 0), (.str (bs [])), .nil] [(0, (1, (.c (.int .i64 (-1))))), (3, (1, (.t 27)))]), none⟩, ⟨(some 7), (.new [(.int .i64 0), (.int .i64 0), (.int .i64 0), (.str (bs [])), .nil]), none⟩, ⟨none, (.st 5 (.t 7) (.t 28)), none⟩]) (.seq (.seq (.reg [⟨(some 29), (.mv (.t 1)), none⟩, ⟨(some 30), (.len (.t 29)), none⟩, ⟨(some 31), (.mv (.c (.int .i64 0))), none⟩]) (.blk 0 (.loop (.seq (.clr 2 [0, 1] [29, 30, 31, 0, 7] [(0, (97, 5)), (29, (47, 2)), (0, (97, 5))] [(7, (4, (3, 1)))]) (.seq (.reg [⟨(some 32), (.bin .lss (.t 31) (.t 30)), none⟩]) (.seq (.cond (.t 32) .skip (.exit 0)) (.seq (.blk 1 (.seq (.reg [⟨(some 33), (.ia 2 (.t 29) (.t 31)), none⟩, ⟨(some 34), (.ld (some 2) (.t 33)), none⟩, ⟨(some 9), (.new [(.str (bs [])), (.int .i64 0)]), none⟩, ⟨none, (.st 2 (.t 9) (.t 34)), none⟩]) (.reg [⟨(some 35), (.fa 4 1 (.t 7)), none⟩, ⟨(some 36), (.ld none (.t 35)), none⟩, ⟨(some 37), (.fa 1 1 (.t 9)), none⟩, ⟨(some 38), (.ld none (.t 37)), none⟩, ⟨(some 39), (.lit 3 1 [(.t 38)]), none⟩, ⟨(some 40), (.app 3 1 8 (.t 36) (.t 39)), none⟩, ⟨(some 41), (.fa 4 1 (.t 7)), none⟩, ⟨none, (.st 1 (.t 41) (.t 40)), none⟩]))) (.reg [⟨(some 42), (.bin .add (.t 31) (.c (.int .i64 1))), none⟩, ⟨(some 31), (.mv (.t 42)), none⟩])))))))) (.seq (.reg [⟨(some 43), (.mv (.t 0)), none⟩, ⟨(some 44), (.ld (some 5) (.t 7)), none⟩, ⟨(some 45), (.lit 97 5 [(.t 44)]), none⟩, ⟨(some 46), (.app 97 5 64 (.t 43) (.t 45)), none⟩, ⟨(some 4), (.mv (.t 46)), none⟩]) .ret))) .skip)) (.seq (.reg [⟨(some 47), (.mv (.t 0)), none⟩, ⟨(some 48), (.len (.t 47)), none⟩, ⟨(some 49), (.mv (.t 5)), none⟩, ⟨(some 50), (.mv (.t 6)), none⟩, ⟨(some 51), (.call 114 [.ro, .ro] [(.t 49), (.t 50)]), none⟩, ⟨(some 11), (.new [(.int .i64 0)]), none⟩, ⟨(some 10), (.mv (.t 48)), none⟩, ⟨none, (.st 1 (.t 11) (.t 51)), none⟩]) (.seq (.reg [⟨(some 52), (.mv (.t 1)), none⟩, ⟨(some 53), (.clof 116 [(.t 11)]), none⟩, ⟨(some 54), (.call 115 [.ro, .ro] [(.t 52), (.t 53)]), none⟩, ⟨(some 12), (.mv (.t 54)), none⟩]) (.seq (.drw [⟨(some 55), (.mv (.t 0)), none⟩, ⟨(some 56), (.ld none (.t 11)), none⟩, ⟨(some 57), (.mv (.t 10)), none⟩, ⟨(some 58), (.bin .add (.t 57) (.c (.int .i64 1))), none⟩, ⟨(some 59), (.bld [(.int .i64 0), (.int .i64 0), (.int .i64 0), (.str (bs [])), .nil] [(0, (1, (.t 56))), (1, (1, (.t 58)))]), none⟩, ⟨(some 60), (.lit 97 5 [(.t 59)]), none⟩, ⟨(some 61), (.app 97 5 64 (.t 55) (.t 60)), none⟩, ⟨(some 62), (.mv (.t 1)), none⟩, ⟨(some 63), (.mv (.t 12)), none⟩, ⟨(some 64), (.sub 2 (.t 62) none (some (.t 63))), none⟩, ⟨(some 65), (.call 87 [(.io 97 5), .ro] [(.t 61), (.t 64)]), none⟩, ⟨(some 0), (.mv (.t 65)), none⟩] [(1, 9), (5, 9), (6, 9)]) (.seq (.reg [⟨(some 66), (.mv (.t 0)), none⟩, ⟨(some 67), (.mv (.t 10)), none⟩, ⟨(some 68), (.mv (.t 0)), none⟩, ⟨(some 69), (.len (.t 68)), none⟩, ⟨(some 70), (.ia 5 (.t 66) (.t 67)), none⟩, ⟨(some 71), (.fa 2 1 (.t 70)), none⟩, ⟨none, (.st 1 (.t 71) (.t 69)), none⟩]) (.seq (.reg [⟨(some 72), (.mv (.t 0)), none⟩, ⟨(some 73), (.mv (.t 1)), none⟩, ⟨(some 74), (.mv (.t 12)), none⟩, ⟨(some 75), (.sub 2 (.t 73) (some (.t 74)) none), none⟩, ⟨(some 76), (.call 87 [(.io 97 5), .ro] [(.t 72), (.t 75)]), none⟩, ⟨(some 4), (.mv (.t 76)), none⟩]) .ret))))))))
def F87 : F := ⟨2, 77, [0, 1], [(.tsl 4 97 5)], B87⟩
set_option maxRecDepth 100000 in
theorem comp87 : compF Try.prog 87 = some F87 := by kernel_rfl
def B88 : C := (.seq (.reg [⟨(some 4), (.mv (.c .nil)), none⟩]) (.seq (.reg [⟨(some 6), (.mv (.t 0)), none⟩, ⟨(some 7), (.call 118 [.ro] [(.t 6)]), none⟩, ⟨(some 5), (.mv (.t 7)), none⟩]) (.seq (.reg [⟨(some 8), (.mv (.t 5)), none⟩, ⟨(some 9), (.mv (.t 1)), none⟩, ⟨(some 10), (.call 119 [(.io 47 2), .ro] [(.t 8), (.t 9)]), none⟩]) (.seq (.reg [⟨(some 11), (.mv (.t 5)), none⟩, ⟨(some 4), (.mv (.t 11)), none⟩]) .ret))))
def F88 : F := ⟨2, 12, [], [(.tsl 4 47 2)], B88⟩
set_option maxRecDepth 100000 in
theorem comp88 : compF Try.prog 88 = some F88 := by kernel_rfl
def B89 : C := (.seq (.reg [⟨(some 1), (.box (.t 0)), none⟩, ⟨(some 2), (.mv (.c (.raw .nilFunc))), none⟩]) (.seq (.reg [⟨(some 3), (.clof 120 [(.t 1)]), none⟩, ⟨(some 2), (.mv (.t 3)), none⟩]) .ret))
def F89 : F := ⟨1, 4, [0], [(.tmp 2)], B89⟩
set_option maxRecDepth 100000 in
theorem comp89 : compF Try.prog 89 = some F89 := by kernel_rfl
def B90 : C := (.seq (.reg [⟨(some 2), (.box (.t 0)), none⟩, ⟨(some 3), (.box (.t 1)), none⟩, ⟨(some 4), (.mv (.c (.int .i64 0))), none⟩]) (.seq (.drw [⟨(some 5), (.fa 0 1 (.t 2)), none⟩, ⟨(some 6), (.ld none (.t 5)), none⟩, ⟨(some 7), (.fa 0 1 (.t 3)), none⟩, ⟨(some 8), (.ld none (.t 7)), none⟩, ⟨(some 9), (.call 122 [.ro, .ro] [(.t 6), (.t 8)]), none⟩, ⟨(some 10), (.fa 1 1 (.t 2)), none⟩, ⟨(some 11), (.ld none (.t 10)), none⟩, ⟨(some 12), (.fa 1 1 (.t 3)), none⟩, ⟨(some 13), (.ld none (.t 12)), none⟩, ⟨(some 14), (.call 123 [.ro, .ro] [(.t 11), (.t 13)]), none⟩, ⟨(some 15), (.lit 3 1 [(.t 9), (.t 14)]), none⟩, ⟨(some 16), (.call 121 [.ro] [(.t 15)]), none⟩, ⟨(some 4), (.mv (.t 16)), none⟩] [(4, 6), (4, 8)]) .ret))
def F90 : F := ⟨2, 17, [], [(.tmp 4)], B90⟩
set_option maxRecDepth 100000 in
theorem comp90 : compF Try.prog 90 = some F90 := by kernel_rfl
def B91 : C := (.seq (.reg [⟨(some 2), (.box (.t 0)), none⟩, ⟨(some 3), (.box (.t 1)), none⟩, ⟨(some 4), (.mv (.c (.bool false))), none⟩]) (.seq (.reg [⟨(some 5), (.fa 0 1 (.t 2)), none⟩, ⟨(some 6), (.ld none (.t 5)), none⟩, ⟨(some 7), (.fa 0 1 (.t 3)), none⟩, ⟨(some 8), (.ld none (.t 7)), none⟩, ⟨(some 9), (.bin .lss (.t 6) (.t 8)), none⟩, ⟨(some 10), (.mv (.t 9)), none⟩, ⟨(some 11), (.fa 0 1 (.t 2)), (some (10, false))⟩, ⟨(some 12), (.ld none (.t 11)), (some (10, false))⟩, ⟨(some 13), (.fa 0 1 (.t 3)), (some (10, false))⟩, ⟨(some 14), (.ld none (.t 13)), (some (10, false))⟩, ⟨(some 15), (.bin .eql (.t 12) (.t 14)), (some (10, false))⟩, ⟨(some 16), (.mv (.t 15)), (some (10, false))⟩, ⟨(some 17), (.fa 1 1 (.t 2)), (some (16, true))⟩, ⟨(some 18), (.ld none (.t 17)), (some (16, true))⟩, ⟨(some 19), (.fa 1 1 (.t 3)), (some (16, true))⟩, ⟨(some 20), (.ld none (.t 19)), (some (16, true))⟩, ⟨(some 21), (.bin .lss (.t 18) (.t 20)), (some (16, true))⟩, ⟨(some 22), (.pick (.t 16) (.t 21) (.c (.bool false))), (some (10, false))⟩, ⟨(some 23), (.pick (.t 10) (.c (.bool true)) (.t 22)), none⟩, ⟨(some 4), (.mv (.t 23)), none⟩]) .ret))
def F91 : F := ⟨2, 24, [], [(.tmp 4)], B91⟩
set_option maxRecDepth 100000 in
theorem comp91 : compF Try.prog 91 = some F91 := by kernel_rfl
def B114 : C := (.seq (.reg [⟨(some 4), (.mv (.c (.int .i64 0))), none⟩]) (.seq (.reg [⟨(some 5), (.mv (.c (.int .i64 0))), none⟩]) (.seq (.blk 0 (.loop (.seq (.clr 2 [] [1, 0, 5] [] []) (.seq (.seq (.reg [⟨(some 6), (.mv (.t 0)), none⟩, ⟨(some 7), (.mv (.t 5)), none⟩, ⟨(some 8), (.call 117 [.ro, .ro] [(.t 6), (.t 7)]), none⟩, ⟨(some 9), (.mv (.t 1)), none⟩, ⟨(some 10), (.mv (.t 5)), none⟩, ⟨(some 11), (.call 117 [.ro, .ro] [(.t 9), (.t 10)]), none⟩, ⟨(some 12), (.bin .eql (.t 8) (.t 11)), none⟩]) (.cond (.t 12) .skip (.exit 0))) (.blk 1 (.reg [⟨(some 13), (.mv (.t 5)), none⟩, ⟨(some 14), (.bin .add (.t 13) (.c (.int .i64 1))), none⟩, ⟨(some 5), (.mv (.t 14)), none⟩])))))) (.seq (.reg [⟨(some 15), (.mv (.t 5)), none⟩, ⟨(some 4), (.mv (.t 15)), none⟩]) .ret))))
def F114 : F := ⟨2, 16, [], [(.tmp 4)], B114⟩
set_option maxRecDepth 100000 in
theorem comp114 : compF Try.prog 114 = some F114 := by kernel_rfl
def B115 : C := (.seq (.reg [⟨(some 4), (.mv (.c (.int .i64 0))), none⟩]) (.seq (.seq (.reg [⟨(some 6), (.mv (.t 0)), none⟩, ⟨(some 7), (.len (.t 6)), none⟩, ⟨(some 8), (.mv (.c (.int .i64 0))), none⟩]) (.blk 0 (.loop (.seq (.clr 2 [0] [1, 0, 7, 8] [(0, (47, 2))] []) (.seq (.reg [⟨(some 9), (.bin .lss (.t 8) (.t 7)), none⟩]) (.seq (.cond (.t 9) .skip (.exit 0)) (.seq (.blk 1 (.seq (.reg [⟨(some 10), (.mv (.t 8)), none⟩, ⟨(some 5), (.mv (.t 10)), none⟩]) (.seq (.reg [⟨(some 11), (.mv (.t 1)), none⟩, ⟨(some 12), (.mv (.t 0)), none⟩, ⟨(some 13), (.mv (.t 5)), none⟩, ⟨(some 14), (.ia 2 (.t 12) (.t 13)), none⟩, ⟨(some 15), (.ld (some 2) (.t 14)), none⟩, ⟨(some 16), (.calld (.t 11) [(.t 15)]), none⟩]) (.cond (.t 16) (.seq (.reg [⟨(some 17), (.mv (.t 5)), none⟩, ⟨(some 4), (.mv (.t 17)), none⟩]) .ret) .skip)))) (.reg [⟨(some 18), (.bin .add (.t 8) (.c (.int .i64 1))), none⟩, ⟨(some 8), (.mv (.t 18)), none⟩])))))))) (.seq (.reg [⟨(some 4), (.mv (.c (.int .i64 (-1)))), none⟩]) .ret)))
def F115 : F := ⟨2, 19, [0], [(.tmp 4)], B115⟩
set_option maxRecDepth 100000 in
theorem comp115 : compF Try.prog 115 = some F115 := by kernel_rfl
def B116 : C := (.seq (.reg [⟨(some 2), (.box (.t 0)), none⟩, ⟨(some 3), (.mv (.c (.bool false))), none⟩]) (.seq (.reg [⟨(some 4), (.fa 0 1 (.t 2)), none⟩, ⟨(some 5), (.ld none (.t 4)), none⟩, ⟨(some 6), (.ld none (.t 1)), none⟩, ⟨(some 7), (.call 117 [.ro, .ro] [(.t 5), (.t 6)]), none⟩, ⟨(some 8), (.bin .eql (.t 7) (.c (.int .i64 1))), none⟩, ⟨(some 3), (.mv (.t 8)), none⟩]) .ret))
def F116 : F := ⟨2, 9, [], [(.tmp 3)], B116⟩
set_option maxRecDepth 100000 in
theorem comp116 : compF Try.prog 116 = some F116 := by kernel_rfl
def B117 : C := (.seq (.reg [⟨(some 4), (.mv (.c (.int .i64 0))), none⟩]) (.seq (.reg [⟨(some 5), (.mv (.t 0)), none⟩, ⟨(some 6), (.mv (.t 1)), none⟩, ⟨(some 7), (.bin .quo (.t 6) (.c (.int .i64 8))), none⟩, ⟨(some 8), (.ix (.t 5) (.t 7)), none⟩, ⟨(some 9), (.mv (.t 1)), none⟩, ⟨(some 10), (.bin .rem (.t 9) (.c (.int .i64 8))), none⟩, ⟨(some 11), (.bin .sub (.c (.int .i64 7)) (.t 10)), none⟩, ⟨(some 12), (.bin .shr (.t 8) (.t 11)), none⟩, ⟨(some 13), (.cvi .i64 (.t 12)), none⟩, ⟨(some 14), (.bin .and (.t 13) (.c (.int .i64 1))), none⟩, ⟨(some 4), (.mv (.t 14)), none⟩]) .ret))
def F117 : F := ⟨2, 15, [], [(.tmp 4)], B117⟩
set_option maxRecDepth 100000 in
theorem comp117 : compF Try.prog 117 = some F117 := by kernel_rfl
def B121 : C := (.seq (.reg [⟨(some 2), (.mv (.c (.int .i64 0))), none⟩]) (.seq (.reg [⟨(some 3), (.mv (.c (.int .i64 0))), none⟩]) (.seq (.seq (.reg [⟨(some 6), (.mv (.t 0)), none⟩, ⟨(some 7), (.len (.t 6)), none⟩, ⟨(some 8), (.mv (.c (.int .i64 0))), none⟩]) (.blk 0 (.loop (.seq (.clr 1 [0] [6, 7, 8, 3] [(6, (3, 1))] []) (.seq (.reg [⟨(some 9), (.bin .lss (.t 8) (.t 7)), none⟩]) (.seq (.cond (.t 9) .skip (.exit 0)) (.seq (.blk 1 (.seq (.reg [⟨(some 10), (.ia 1 (.t 6) (.t 8)), none⟩, ⟨(some 11), (.ld none (.t 10)), none⟩, ⟨(some 5), (.mv (.t 11)), none⟩]) (.seq (.reg [⟨(some 12), (.mv (.t 5)), none⟩, ⟨(some 13), (.mv (.t 3)), none⟩, ⟨(some 14), (.bin .neq (.t 12) (.t 13)), none⟩]) (.cond (.t 14) (.seq (.reg [⟨(some 15), (.mv (.t 5)), none⟩, ⟨(some 2), (.mv (.t 15)), none⟩]) .ret) .skip)))) (.reg [⟨(some 16), (.bin .add (.t 8) (.c (.int .i64 1))), none⟩, ⟨(some 8), (.mv (.t 16)), none⟩])))))))) (.seq (.reg [⟨(some 17), (.mv (.t 3)), none⟩, ⟨(some 2), (.mv (.t 17)), none⟩]) .ret))))
def F121 : F := ⟨1, 18, [0], [(.tmp 2)], B121⟩
set_option maxRecDepth 100000 in
theorem comp121 : compF Try.prog 121 = some F121 := by kernel_rfl
def B122 : C := (.seq (.reg [⟨(some 4), (.mv (.c (.int .i64 0))), none⟩]) (.seq (.reg [⟨(some 5), (.mv (.t 0)), none⟩, ⟨(some 6), (.mv (.t 1)), none⟩, ⟨(some 7), (.call 141 [.ro, .ro] [(.t 5), (.t 6)]), none⟩, ⟨(some 4), (.mv (.t 7)), none⟩]) .ret))
def F122 : F := ⟨2, 8, [], [(.tmp 4)], B122⟩
set_option maxRecDepth 100000 in
theorem comp122 : compF Try.prog 122 = some F122 := by kernel_rfl
def B123 : C := (.seq (.reg [⟨(some 4), (.mv (.c (.int .i64 0))), none⟩]) (.seq (.reg [⟨(some 7), (.mv (.t 0)), none⟩, ⟨(some 8), (.call 142 [.ro] [(.t 7)]), none⟩, ⟨(some 5), (.mv (.t 8)), none⟩]) (.seq (.reg [⟨(some 9), (.mv (.t 1)), none⟩, ⟨(some 10), (.call 142 [.ro] [(.t 9)]), none⟩, ⟨(some 6), (.mv (.t 10)), none⟩]) (.seq (.seq (.reg [⟨(some 11), (.mv (.t 5)), none⟩]) (.cond (.t 11) (.seq (.seq (.reg [⟨(some 12), (.mv (.t 6)), none⟩]) (.cond (.t 12) (.seq (.reg [⟨(some 4), (.mv (.c (.int .i64 0))), none⟩]) .ret) .skip)) (.seq (.reg [⟨(some 4), (.mv (.c (.int .i64 (-1)))), none⟩]) .ret)) .skip)) (.seq (.seq (.reg [⟨(some 13), (.mv (.t 6)), none⟩]) (.cond (.t 13) (.seq (.reg [⟨(some 4), (.mv (.c (.int .i64 1))), none⟩]) .ret) .skip)) (.seq (.seq (.reg [⟨(some 14), (.mv (.t 0)), none⟩, ⟨(some 15), (.mv (.t 1)), none⟩, ⟨(some 16), (.bin .lss (.t 14) (.t 15)), none⟩]) (.cond (.t 16) (.seq (.reg [⟨(some 4), (.mv (.c (.int .i64 (-1)))), none⟩]) .ret) .skip)) (.seq (.seq (.reg [⟨(some 17), (.mv (.t 0)), none⟩, ⟨(some 18), (.mv (.t 1)), none⟩, ⟨(some 19), (.bin .gtr (.t 17) (.t 18)), none⟩]) (.cond (.t 19) (.seq (.reg [⟨(some 4), (.mv (.c (.int .i64 1))), none⟩]) .ret) .skip)) (.seq (.reg [⟨(some 4), (.mv (.c (.int .i64 0))), none⟩]) .ret))))))))
def F123 : F := ⟨2, 20, [], [(.tmp 4)], B123⟩
set_option maxRecDepth 100000 in
theorem comp123 : compF Try.prog 123 = some F123 := by kernel_rfl
def B142 : C := (.seq (.reg [⟨(some 2), (.mv (.c (.bool false))), none⟩]) (.seq (.reg [⟨(some 3), (.mv (.t 0)), none⟩, ⟨(some 4), (.mv (.t 0)), none⟩, ⟨(some 5), (.bin .neq (.t 3) (.t 4)), none⟩, ⟨(some 2), (.mv (.t 5)), none⟩]) .ret))
def F142 : F := ⟨1, 6, [], [(.tmp 2)], B142⟩
set_option maxRecDepth 100000 in
theorem comp142 : compF Try.prog 142 = some F142 := by kernel_rfl
def tab : List (Nat × F) := [(3, F3), (12, F12), (13, F13), (14, F14), (15, F15), (16, F16), (17, F17), (18, F18), (29, F29), (34, F34), (37, F37), (50, F50), (51, F51), (52, F52), (53, F53), (54, F54), (55, F55), (56, F56), (57, F57), (58, F58), (59, F59), (60, F60), (73, F73), (76, F76), (87, F87), (88, F88), (89, F89), (90, F90), (91, F91), (114, F114), (115, F115), (116, F116), (117, F117), (121, F121), (122, F122), (123, F123), (142, F142)]
def T (f : Nat) : Option F := (tab.find? fun p => p.1 == f).map (·.2)
theorem tab_ok : ∀ p ∈ tab, compF Try.prog p.1 = some p.2 := by
  exact List.forall_mem_cons.2 ⟨comp3, List.forall_mem_cons.2 ⟨comp12, List.forall_mem_cons.2 ⟨comp13, List.forall_mem_cons.2 ⟨comp14, List.forall_mem_cons.2 ⟨comp15, List.forall_mem_cons.2 ⟨comp16, List.forall_mem_cons.2 ⟨comp17, List.forall_mem_cons.2 ⟨comp18, List.forall_mem_cons.2 ⟨comp29, List.forall_mem_cons.2 ⟨comp34, List.forall_mem_cons.2 ⟨comp37, List.forall_mem_cons.2 ⟨comp50, List.forall_mem_cons.2 ⟨comp51, List.forall_mem_cons.2 ⟨comp52, List.forall_mem_cons.2 ⟨comp53, List.forall_mem_cons.2 ⟨comp54, List.forall_mem_cons.2 ⟨comp55, List.forall_mem_cons.2 ⟨comp56, List.forall_mem_cons.2 ⟨comp57, List.forall_mem_cons.2 ⟨comp58, List.forall_mem_cons.2 ⟨comp59, List.forall_mem_cons.2 ⟨comp60, List.forall_mem_cons.2 ⟨comp73, List.forall_mem_cons.2 ⟨comp76, List.forall_mem_cons.2 ⟨comp87, List.forall_mem_cons.2 ⟨comp88, List.forall_mem_cons.2 ⟨comp89, List.forall_mem_cons.2 ⟨comp90, List.forall_mem_cons.2 ⟨comp91, List.forall_mem_cons.2 ⟨comp114, List.forall_mem_cons.2 ⟨comp115, List.forall_mem_cons.2 ⟨comp116, List.forall_mem_cons.2 ⟨comp117, List.forall_mem_cons.2 ⟨comp121, List.forall_mem_cons.2 ⟨comp122, List.forall_mem_cons.2 ⟨comp123, List.forall_mem_cons.2 ⟨comp142, fun _ h => nomatch h⟩⟩⟩⟩⟩⟩⟩⟩⟩⟩⟩⟩⟩⟩⟩⟩⟩⟩⟩⟩⟩⟩⟩⟩⟩⟩⟩⟩⟩⟩⟩⟩⟩⟩⟩⟩⟩
theorem T_ok : ∀ f F, T f = some F → compF Try.prog f = some F := by
  intro f F h
  unfold T at h
  cases hf : tab.find? (fun p => p.1 == f) with
  | none => simp [hf] at h
  | some p =>
    simp [hf] at h
    have h1 := tab_ok p (List.mem_of_find?_eq_some hf)
    have h2 := List.find?_some hf
    simp at h2
    rw [← h2, ← h]; exact h1
theorem T3 : T 3 = some F3 := rfl
theorem T12 : T 12 = some F12 := rfl
theorem T13 : T 13 = some F13 := rfl
theorem T14 : T 14 = some F14 := rfl
theorem T15 : T 15 = some F15 := rfl
theorem T16 : T 16 = some F16 := rfl
theorem T17 : T 17 = some F17 := rfl
theorem T18 : T 18 = some F18 := rfl
theorem T29 : T 29 = some F29 := rfl
theorem T34 : T 34 = some F34 := rfl
theorem T37 : T 37 = some F37 := rfl
theorem T50 : T 50 = some F50 := rfl
theorem T51 : T 51 = some F51 := rfl
theorem T52 : T 52 = some F52 := rfl
theorem T53 : T 53 = some F53 := rfl
theorem T54 : T 54 = some F54 := rfl
theorem T55 : T 55 = some F55 := rfl
theorem T56 : T 56 = some F56 := rfl
theorem T57 : T 57 = some F57 := rfl
theorem T58 : T 58 = some F58 := rfl
theorem T59 : T 59 = some F59 := rfl
theorem T60 : T 60 = some F60 := rfl
theorem T73 : T 73 = some F73 := rfl
theorem T76 : T 76 = some F76 := rfl
theorem T87 : T 87 = some F87 := rfl
theorem T88 : T 88 = some F88 := rfl
theorem T89 : T 89 = some F89 := rfl
theorem T90 : T 90 = some F90 := rfl
theorem T91 : T 91 = some F91 := rfl
theorem T114 : T 114 = some F114 := rfl
theorem T115 : T 115 = some F115 := rfl
theorem T116 : T 116 = some F116 := rfl
theorem T117 : T 117 = some F117 := rfl
theorem T121 : T 121 = some F121 := rfl
theorem T122 : T 122 = some F122 := rfl
theorem T123 : T 123 = some F123 := rfl
theorem T142 : T 142 = some F142 := rfl
theorem body3 : F3.body = B3 := rfl
theorem np3 : F3.np = 1 := rfl
theorem res3 : F3.res = [(.tmp 2)] := rfl
theorem start3 {xs : List AV} : F3.start xs = ⟨startT 0 xs ++ List.replicate (52 - xs.length) .unk, startO xs ++ List.replicate (52 - xs.length) ⟨0, [], .dead⟩⟩ := rfl
theorem body12 : F12.body = B12 := rfl
theorem np12 : F12.np = 0 := rfl
theorem res12 : F12.res = [(.tmp 0)] := rfl
theorem start12 {xs : List AV} : F12.start xs = ⟨startT 0 xs ++ List.replicate (35 - xs.length) .unk, startO xs ++ List.replicate (35 - xs.length) ⟨0, [], .dead⟩⟩ := rfl
theorem body13 : F13.body = B13 := rfl
theorem np13 : F13.np = 1 := rfl
theorem res13 : F13.res = [(.tmp 2)] := rfl
theorem start13 {xs : List AV} : F13.start xs = ⟨startT 0 xs ++ List.replicate (24 - xs.length) .unk, startO xs ++ List.replicate (24 - xs.length) ⟨0, [], .dead⟩⟩ := rfl
theorem body14 : F14.body = B14 := rfl
theorem np14 : F14.np = 1 := rfl
theorem res14 : F14.res = [(.tsl 2 97 5), (.tmp 3), (.tmp 4)] := rfl
theorem start14 {xs : List AV} : F14.start xs = ⟨startT 0 xs ++ List.replicate (45 - xs.length) .unk, startO xs ++ List.replicate (45 - xs.length) ⟨0, [], .dead⟩⟩ := rfl
theorem body15 : F15.body = B15 := rfl
theorem np15 : F15.np = 1 := rfl
theorem res15 : F15.res = [(.tsl 2 47 2)] := rfl
theorem start15 {xs : List AV} : F15.start xs = ⟨startT 0 xs ++ List.replicate (5 - xs.length) .unk, startO xs ++ List.replicate (5 - xs.length) ⟨0, [], .dead⟩⟩ := rfl
theorem body16 : F16.body = B16 := rfl
theorem np16 : F16.np = 1 := rfl
theorem res16 : F16.res = [(.tmp 2), (.tmp 3)] := rfl
theorem start16 {xs : List AV} : F16.start xs = ⟨startT 0 xs ++ List.replicate (53 - xs.length) .unk, startO xs ++ List.replicate (53 - xs.length) ⟨0, [], .dead⟩⟩ := rfl
theorem body17 : F17.body = B17 := rfl
theorem np17 : F17.np = 2 := rfl
theorem res17 : F17.res = [(.tmp 4)] := rfl
theorem start17 {xs : List AV} : F17.start xs = ⟨startT 0 xs ++ List.replicate (27 - xs.length) .unk, startO xs ++ List.replicate (27 - xs.length) ⟨0, [], .dead⟩⟩ := rfl
theorem body18 : F18.body = B18 := rfl
theorem np18 : F18.np = 1 := rfl
theorem res18 : F18.res = [(.tsl 2 97 5)] := rfl
theorem start18 {xs : List AV} : F18.start xs = ⟨startT 0 xs ++ List.replicate (10 - xs.length) .unk, startO xs ++ List.replicate (10 - xs.length) ⟨0, [], .dead⟩⟩ := rfl
theorem body29 : F29.body = B29 := rfl
theorem np29 : F29.np = 3 := rfl
theorem res29 : F29.res = [(.tmp 6)] := rfl
theorem start29 {xs : List AV} : F29.start xs = ⟨startT 0 xs ++ List.replicate (15 - xs.length) .unk, startO xs ++ List.replicate (15 - xs.length) ⟨0, [], .dead⟩⟩ := rfl
theorem body34 : F34.body = B34 := rfl
theorem np34 : F34.np = 1 := rfl
theorem res34 : F34.res = [(.tmp 2)] := rfl
theorem start34 {xs : List AV} : F34.start xs = ⟨startT 0 xs ++ List.replicate (4 - xs.length) .unk, startO xs ++ List.replicate (4 - xs.length) ⟨0, [], .dead⟩⟩ := rfl
theorem body37 : F37.body = B37 := rfl
theorem np37 : F37.np = 2 := rfl
theorem res37 : F37.res = [(.tmp 4)] := rfl
theorem start37 {xs : List AV} : F37.start xs = ⟨startT 0 xs ++ List.replicate (26 - xs.length) .unk, startO xs ++ List.replicate (26 - xs.length) ⟨0, [], .dead⟩⟩ := rfl
theorem body50 : F50.body = B50 := rfl
theorem np50 : F50.np = 0 := rfl
theorem res50 : F50.res = [(.tsl 0 47 2)] := rfl
theorem start50 {xs : List AV} : F50.start xs = ⟨startT 0 xs ++ List.replicate (4 - xs.length) .unk, startO xs ++ List.replicate (4 - xs.length) ⟨0, [], .dead⟩⟩ := rfl
theorem body51 : F51.body = B51 := rfl
theorem np51 : F51.np = 1 := rfl
theorem res51 : F51.res = [(.tmp 2)] := rfl
theorem start51 {xs : List AV} : F51.start xs = ⟨startT 0 xs ++ List.replicate (15 - xs.length) .unk, startO xs ++ List.replicate (15 - xs.length) ⟨0, [], .dead⟩⟩ := rfl
theorem body52 : F52.body = B52 := rfl
theorem np52 : F52.np = 1 := rfl
theorem res52 : F52.res = [(.tmp 2)] := rfl
theorem start52 {xs : List AV} : F52.start xs = ⟨startT 0 xs ++ List.replicate (24 - xs.length) .unk, startO xs ++ List.replicate (24 - xs.length) ⟨0, [], .dead⟩⟩ := rfl
theorem body53 : F53.body = B53 := rfl
theorem np53 : F53.np = 2 := rfl
theorem res53 : F53.res = [(.tmp 4)] := rfl
theorem start53 {xs : List AV} : F53.start xs = ⟨startT 0 xs ++ List.replicate (7 - xs.length) .unk, startO xs ++ List.replicate (7 - xs.length) ⟨0, [], .dead⟩⟩ := rfl
theorem body54 : F54.body = B54 := rfl
theorem np54 : F54.np = 2 := rfl
theorem res54 : F54.res = [(.tmp 4)] := rfl
theorem start54 {xs : List AV} : F54.start xs = ⟨startT 0 xs ++ List.replicate (9 - xs.length) .unk, startO xs ++ List.replicate (9 - xs.length) ⟨0, [], .dead⟩⟩ := rfl
theorem body55 : F55.body = B55 := rfl
theorem np55 : F55.np = 1 := rfl
theorem res55 : F55.res = [(.tsl 2 97 5)] := rfl
theorem start55 {xs : List AV} : F55.start xs = ⟨startT 0 xs ++ List.replicate (10 - xs.length) .unk, startO xs ++ List.replicate (10 - xs.length) ⟨0, [], .dead⟩⟩ := rfl
theorem body56 : F56.body = B56 := rfl
theorem np56 : F56.np = 1 := rfl
theorem res56 : F56.res = [(.tmp 2)] := rfl
theorem start56 {xs : List AV} : F56.start xs = ⟨startT 0 xs ++ List.replicate (14 - xs.length) .unk, startO xs ++ List.replicate (14 - xs.length) ⟨0, [], .dead⟩⟩ := rfl
theorem body57 : F57.body = B57 := rfl
theorem np57 : F57.np = 2 := rfl
theorem res57 : F57.res = [(.tmp 4)] := rfl
theorem start57 {xs : List AV} : F57.start xs = ⟨startT 0 xs ++ List.replicate (38 - xs.length) .unk, startO xs ++ List.replicate (38 - xs.length) ⟨0, [], .dead⟩⟩ := rfl
theorem body58 : F58.body = B58 := rfl
theorem np58 : F58.np = 2 := rfl
theorem res58 : F58.res = [(.tsl 4 97 5)] := rfl
theorem start58 {xs : List AV} : F58.start xs = ⟨startT 0 xs ++ List.replicate (76 - xs.length) .unk, startO xs ++ List.replicate (76 - xs.length) ⟨0, [], .dead⟩⟩ := rfl
theorem body59 : F59.body = B59 := rfl
theorem np59 : F59.np = 1 := rfl
theorem res59 : F59.res = [(.tsl 2 140 2)] := rfl
theorem start59 {xs : List AV} : F59.start xs = ⟨startT 0 xs ++ List.replicate (64 - xs.length) .unk, startO xs ++ List.replicate (64 - xs.length) ⟨0, [], .dead⟩⟩ := rfl
theorem body60 : F60.body = B60 := rfl
theorem np60 : F60.np = 1 := rfl
theorem res60 : F60.res = [(.tsl 2 47 2)] := rfl
theorem start60 {xs : List AV} : F60.start xs = ⟨startT 0 xs ++ List.replicate (53 - xs.length) .unk, startO xs ++ List.replicate (53 - xs.length) ⟨0, [], .dead⟩⟩ := rfl
theorem body73 : F73.body = B73 := rfl
theorem np73 : F73.np = 2 := rfl
theorem res73 : F73.res = [(.tmp 4)] := rfl
theorem start73 {xs : List AV} : F73.start xs = ⟨startT 0 xs ++ List.replicate (15 - xs.length) .unk, startO xs ++ List.replicate (15 - xs.length) ⟨0, [], .dead⟩⟩ := rfl
theorem body76 : F76.body = B76 := rfl
theorem np76 : F76.np = 2 := rfl
theorem res76 : F76.res = [(.tmp 4)] := rfl
theorem start76 {xs : List AV} : F76.start xs = ⟨startT 0 xs ++ List.replicate (19 - xs.length) .unk, startO xs ++ List.replicate (19 - xs.length) ⟨0, [], .dead⟩⟩ := rfl
theorem body87 : F87.body = B87 := rfl
theorem np87 : F87.np = 2 := rfl
theorem res87 : F87.res = [(.tsl 4 97 5)] := rfl
theorem start87 {xs : List AV} : F87.start xs = ⟨startT 0 xs ++ List.replicate (77 - xs.length) .unk, startO xs ++ List.replicate (77 - xs.length) ⟨0, [], .dead⟩⟩ := rfl
theorem body88 : F88.body = B88 := rfl
theorem np88 : F88.np = 2 := rfl
theorem res88 : F88.res = [(.tsl 4 47 2)] := rfl
theorem start88 {xs : List AV} : F88.start xs = ⟨startT 0 xs ++ List.replicate (12 - xs.length) .unk, startO xs ++ List.replicate (12 - xs.length) ⟨0, [], .dead⟩⟩ := rfl
theorem body89 : F89.body = B89 := rfl
theorem np89 : F89.np = 1 := rfl
theorem res89 : F89.res = [(.tmp 2)] := rfl
theorem start89 {xs : List AV} : F89.start xs = ⟨startT 0 xs ++ List.replicate (4 - xs.length) .unk, startO xs ++ List.replicate (4 - xs.length) ⟨0, [], .dead⟩⟩ := rfl
theorem body90 : F90.body = B90 := rfl
theorem np90 : F90.np = 2 := rfl
theorem res90 : F90.res = [(.tmp 4)] := rfl
theorem start90 {xs : List AV} : F90.start xs = ⟨startT 0 xs ++ List.replicate (17 - xs.length) .unk, startO xs ++ List.replicate (17 - xs.length) ⟨0, [], .dead⟩⟩ := rfl
theorem body91 : F91.body = B91 := rfl
theorem np91 : F91.np = 2 := rfl
theorem res91 : F91.res = [(.tmp 4)] := rfl
theorem start91 {xs : List AV} : F91.start xs = ⟨startT 0 xs ++ List.replicate (24 - xs.length) .unk, startO xs ++ List.replicate (24 - xs.length) ⟨0, [], .dead⟩⟩ := rfl
theorem body114 : F114.body = B114 := rfl
theorem np114 : F114.np = 2 := rfl
theorem res114 : F114.res = [(.tmp 4)] := rfl
theorem start114 {xs : List AV} : F114.start xs = ⟨startT 0 xs ++ List.replicate (16 - xs.length) .unk, startO xs ++ List.replicate (16 - xs.length) ⟨0, [], .dead⟩⟩ := rfl
theorem body115 : F115.body = B115 := rfl
theorem np115 : F115.np = 2 := rfl
theorem res115 : F115.res = [(.tmp 4)] := rfl
theorem start115 {xs : List AV} : F115.start xs = ⟨startT 0 xs ++ List.replicate (19 - xs.length) .unk, startO xs ++ List.replicate (19 - xs.length) ⟨0, [], .dead⟩⟩ := rfl
theorem body116 : F116.body = B116 := rfl
theorem np116 : F116.np = 2 := rfl
theorem res116 : F116.res = [(.tmp 3)] := rfl
theorem start116 {xs : List AV} : F116.start xs = ⟨startT 0 xs ++ List.replicate (9 - xs.length) .unk, startO xs ++ List.replicate (9 - xs.length) ⟨0, [], .dead⟩⟩ := rfl
theorem body117 : F117.body = B117 := rfl
theorem np117 : F117.np = 2 := rfl
theorem res117 : F117.res = [(.tmp 4)] := rfl
theorem start117 {xs : List AV} : F117.start xs = ⟨startT 0 xs ++ List.replicate (15 - xs.length) .unk, startO xs ++ List.replicate (15 - xs.length) ⟨0, [], .dead⟩⟩ := rfl
theorem body121 : F121.body = B121 := rfl
theorem np121 : F121.np = 1 := rfl
theorem res121 : F121.res = [(.tmp 2)] := rfl
theorem start121 {xs : List AV} : F121.start xs = ⟨startT 0 xs ++ List.replicate (18 - xs.length) .unk, startO xs ++ List.replicate (18 - xs.length) ⟨0, [], .dead⟩⟩ := rfl
theorem body122 : F122.body = B122 := rfl
theorem np122 : F122.np = 2 := rfl
theorem res122 : F122.res = [(.tmp 4)] := rfl
theorem start122 {xs : List AV} : F122.start xs = ⟨startT 0 xs ++ List.replicate (8 - xs.length) .unk, startO xs ++ List.replicate (8 - xs.length) ⟨0, [], .dead⟩⟩ := rfl
theorem body123 : F123.body = B123 := rfl
theorem np123 : F123.np = 2 := rfl
theorem res123 : F123.res = [(.tmp 4)] := rfl
theorem start123 {xs : List AV} : F123.start xs = ⟨startT 0 xs ++ List.replicate (20 - xs.length) .unk, startO xs ++ List.replicate (20 - xs.length) ⟨0, [], .dead⟩⟩ := rfl
theorem body142 : F142.body = B142 := rfl
theorem np142 : F142.np = 1 := rfl
theorem res142 : F142.res = [(.tmp 2)] := rfl
theorem start142 {xs : List AV} : F142.start xs = ⟨startT 0 xs ++ List.replicate (6 - xs.length) .unk, startO xs ++ List.replicate (6 - xs.length) ⟨0, [], .dead⟩⟩ := rfl
end Go.Nv
