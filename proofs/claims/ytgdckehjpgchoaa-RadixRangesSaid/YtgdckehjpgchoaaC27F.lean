/- The functions of this seat, by value. Written by my own program (gen/genlit, gen/mkfuncs). -/
import Derived.Test.YtgdckehjpgchoaaProg
import Derived.Test.YtgdckehjpgchoaaNFun
set_option linter.unusedVariables false
set_option linter.unusedSimpArgs false
namespace Go.Nv
open Go.Proofs
/-- Operations, written shortly. -/
def ov (d s : Nat) : OP := ⟨some d, .mv (.t s), none⟩
def oo (d : Nat) (x : O) : OP := ⟨some d, x, none⟩
def og (d : Nat) (x : O) (c : Nat) (b : Bool) : OP := ⟨some d, x, some (c, b)⟩
def B3 : C := (.seq (.reg [oo 2 (.mv (.c (.bool false)))]) (.seq (.seq (.reg [oo 8 (.call 12 [] []), oo 9 (.un .not (.t 8))]) (.cond (.t 9) (.seq (.reg [oo 2 (.mv (.c (.bool false)))]) .ret) .skip)) (.seq (.seq (.reg [ov 10 0, oo 11 (.call 13 [.ro] [(.t 10)]), oo 12 (.un .not (.t 11))]) (.cond (.t 12) (.seq (.reg [oo 2 (.mv (.c (.bool true)))]) .ret) .skip)) (.seq (.reg [ov 14 0, oo 15 (.call 15 [.ro] [(.t 14)]), oo 16 (.call 14 [.ro] [(.t 15)]), ov 13 16, oo 17 (.ext (.t 13) 0), oo 18 (.ext (.t 13) 1), oo 19 (.ext (.t 13) 2), ov 3 17, ov 4 18, ov 5 19]) (.seq (.reg [ov 21 0, oo 22 (.call 16 [.ro] [(.t 21)]), ov 20 22, oo 23 (.ext (.t 20) 0), oo 24 (.ext (.t 20) 1), ov 6 23, ov 7 24]) (.seq (.seq (.reg [ov 25 7, oo 26 (.bin .neq (.t 25) (.c (.int .i64 0)))]) (.cond (.t 26) (.seq (.reg [ov 27 5, ov 28 7, oo 29 (.bin .eql (.t 27) (.t 28)), ov 30 29, og 31 (.mv (.t 4)) 30 true, og 32 (.mv (.t 6)) 30 true, og 33 (.bin .eql (.t 31) (.t 32)) 30 true, oo 34 (.pick (.t 30) (.t 33) (.c (.bool false))), ov 35 34, og 36 (.mv (.t 3)) 35 true, og 37 (.len (.t 36)) 35 true, og 38 (.bin .eql (.t 37) (.c (.int .i64 0))) 35 true, oo 39 (.pick (.t 35) (.t 38) (.c (.bool false))), ov 2 39]) .ret) .skip)) (.seq (.reg [ov 40 5, oo 41 (.bin .eql (.t 40) (.c (.int .i64 0))), ov 42 41, og 43 (.mv (.t 4)) 42 true, og 44 (.bin .eql (.t 43) (.c (.int .i64 0))) 42 true, oo 45 (.pick (.t 42) (.t 44) (.c (.bool false))), ov 46 45, og 47 (.mv (.t 3)) 46 true, og 48 (.mv (.t 0)) 46 true, og 49 (.call 18 [.ro] [(.t 48)]) 46 true, og 50 (.call 17 [.ro, .ro] [(.t 47), (.t 49)]) 46 true, oo 51 (.pick (.t 46) (.t 50) (.c (.bool false))), ov 2 51]) .ret)))))))
def F3 : F := ⟨1, 52, [0], [(.tmp 2)], B3⟩
set_option maxRecDepth 100000 in
theorem comp3 : compF Try.prog 3 = some F3 := by kernel_rfl
def B4 : C := (.seq (.reg [oo 2 (.mv (.c (.bool false)))]) (.seq (.seq (.reg [oo 7 (.call 12 [] []), oo 8 (.un .not (.t 7))]) (.cond (.t 8) (.seq (.reg [oo 2 (.mv (.c (.bool false)))]) .ret) .skip)) (.seq (.seq (.reg [ov 9 0, oo 10 (.call 19 [.ro] [(.t 9)]), oo 11 (.un .not (.t 10))]) (.cond (.t 11) (.seq (.reg [oo 2 (.mv (.c (.bool true)))]) .ret) .skip)) (.seq (.reg [ov 13 0, oo 14 (.call 21 [.ro] [(.t 13)]), oo 15 (.call 20 [.ro] [(.t 14)]), ov 12 15, oo 16 (.ext (.t 12) 0), oo 17 (.ext (.t 12) 1), ov 3 16, ov 4 17]) (.seq (.reg [ov 19 0, oo 20 (.call 22 [.ro] [(.t 19)]), ov 18 20, oo 21 (.ext (.t 18) 0), oo 22 (.ext (.t 18) 1), ov 5 21, ov 6 22]) (.seq (.reg [ov 23 4, ov 24 6, oo 25 (.bin .eql (.t 23) (.t 24)), ov 26 25, og 27 (.mv (.t 3)) 26 true, og 28 (.mv (.t 5)) 26 true, og 29 (.bin .eql (.t 27) (.t 28)) 26 true, oo 30 (.pick (.t 26) (.t 29) (.c (.bool false))), ov 2 30]) .ret))))))
def F4 : F := ⟨1, 31, [0], [(.tmp 2)], B4⟩
set_option maxRecDepth 100000 in
theorem comp4 : compF Try.prog 4 = some F4 := by kernel_rfl
def B5 : C := (.seq (.reg [oo 3 (.box (.t 1)), oo 4 (.mv (.c (.bool false)))]) (.seq (.reg [oo 19 (.fa 0 1 (.t 3)), oo 20 (.ld none (.t 19)), oo 21 (.fa 1 1 (.t 3)), oo 22 (.ld none (.t 21)), oo 23 (.fa 2 1 (.t 3)), oo 24 (.ld none (.t 23)), oo 25 (.fa 3 1 (.t 3)), oo 26 (.ld none (.t 25)), ov 5 20, ov 6 22, ov 7 24, ov 8 26]) (.seq (.seq (.reg [oo 27 (.call 12 [] []), oo 28 (.un .not (.t 27))]) (.cond (.t 28) (.seq (.reg [oo 4 (.mv (.c (.bool false)))]) .ret) .skip)) (.seq (.seq (.reg [ov 29 0, oo 30 (.call 19 [.ro] [(.t 29)]), oo 31 (.un .not (.t 30)), ov 32 31, og 33 (.mv (.t 5)) 32 false, og 34 (.lens (.t 33)) 32 false, og 35 (.bin .gtr (.t 34) (.c (.int .i64 300))) 32 false, oo 36 (.pick (.t 32) (.c (.bool true)) (.t 35)), ov 37 36, og 38 (.mv (.t 6)) 37 false, og 39 (.lens (.t 38)) 37 false, og 40 (.bin .gtr (.t 39) (.c (.int .i64 300))) 37 false, oo 41 (.pick (.t 37) (.c (.bool true)) (.t 40))]) (.cond (.t 41) (.seq (.reg [oo 4 (.mv (.c (.bool true)))]) .ret) .skip)) (.seq (.reg [ov 42 0, oo 43 (.call 23 [.ro] [(.t 42)]), oo 9 (.new [(.int .i64 0)]), ⟨none, (.st 1 (.t 9) (.t 43)), none⟩]) (.seq (.reg [oo 44 (.clof 24 [(.t 9)]), ov 10 44]) (.seq (.reg [ov 46 0, oo 47 (.call 21 [.ro] [(.t 46)]), ov 48 5, ov 49 7, oo 50 (.call 25 [.ro, .ro, .ro] [(.t 47), (.t 48), (.t 49)]), ov 45 50, oo 51 (.ext (.t 45) 0), oo 52 (.ext (.t 45) 1), ov 11 51, ov 12 52]) (.seq (.seq (.reg [ov 53 10, ov 54 5, oo 55 (.calld (.t 53) [(.t 54)]), ov 13 55]) (.seq (.reg [ov 56 13, oo 57 (.bin .neq (.t 56) (.c (.int .i64 0)))]) (.cond (.t 57) (.seq (.reg [ov 58 12, ov 59 13, oo 60 (.bin .neq (.t 58) (.t 59)), ov 61 60, og 62 (.mv (.t 11)) 61 false, og 63 (.bin .neq (.t 62) (.c (.int .i64 0))) 61 false, oo 64 (.pick (.t 61) (.c (.bool true)) (.t 63))]) (.cond (.t 64) (.seq (.reg [oo 4 (.mv (.c (.bool false)))]) .ret) .skip)) (.seq (.reg [ov 65 12, oo 66 (.bin .neq (.t 65) (.c (.int .i64 0))), ov 67 66, og 68 (.mv (.t 11)) 67 false, og 69 (.mv (.t 0)) 67 false, og 70 (.call 27 [.ro] [(.t 69)]) 67 false, og 71 (.mv (.t 5)) 67 false, og 72 (.mv (.t 7)) 67 false, og 73 (.call 26 [.ro, .ro, .ro] [(.t 70), (.t 71), (.t 72)]) 67 false, og 74 (.bin .neq (.t 68) (.t 73)) 67 false, oo 75 (.pick (.t 67) (.c (.bool true)) (.t 74))]) (.cond (.t 75) (.seq (.reg [oo 4 (.mv (.c (.bool false)))]) .ret) .skip))))) (.seq (.reg [ov 77 0, oo 78 (.call 21 [.ro] [(.t 77)]), ov 79 8, oo 80 (.call 28 [.ro, .ro] [(.t 78), (.t 79)]), ov 76 80, oo 81 (.ext (.t 76) 0), oo 82 (.ext (.t 76) 1), oo 14 (.new [(.str (bs [])), (.int .i64 0)]), ⟨none, (.st 2 (.t 14) (.t 81)), none⟩, ov 15 82]) (.seq (.blk 0 (.seq (.reg [oo 95 (.ld none (.t 9)), oo 96 (.bin .neq (.t 95) (.c (.int .i64 0))), ov 94 96]) (.cond (.t 94) (.seq (.reg [ov 97 15, oo 98 (.ld none (.t 9)), oo 99 (.bin .neq (.t 97) (.t 98)), ov 100 99, og 101 (.ld (some 2) (.t 14)) 100 false, og 102 (.bld [(.str (bs [])), (.int .i64 0)] []) 100 false, og 103 (.eqs true [.str, .int] (.t 101) (.t 102)) 100 false, oo 104 (.pick (.t 100) (.c (.bool true)) (.t 103))]) (.cond (.t 104) (.seq (.reg [oo 4 (.mv (.c (.bool false)))]) .ret) .skip)) (.seq (.reg [ov 106 8, ov 107 0, oo 108 (.call 27 [.ro] [(.t 107)]), oo 109 (.len (.t 108)), oo 110 (.bin .sub (.t 109) (.c (.int .i64 1))), oo 111 (.call 29 [.ro, .ro, .ro] [(.t 106), (.c (.int .i64 0)), (.t 110)]), oo 112 (.un .not (.t 111)), ov 105 112]) (.cond (.t 105) (.seq (.reg [ov 113 15, oo 114 (.bin .neq (.t 113) (.c (.int .i64 3))), ov 115 114, og 116 (.ld (some 2) (.t 14)) 115 false, og 117 (.bld [(.str (bs [])), (.int .i64 0)] []) 115 false, og 118 (.eqs true [.str, .int] (.t 116) (.t 117)) 115 false, oo 119 (.pick (.t 115) (.c (.bool true)) (.t 118))]) (.cond (.t 119) (.seq (.reg [oo 4 (.mv (.c (.bool false)))]) .ret) .skip)) (.seq (.drw [ov 83 15, oo 84 (.bin .neq (.t 83) (.c (.int .i64 0))), ov 85 84, og 86 (.ld (some 2) (.t 14)) 85 false, og 87 (.mv (.t 0)) 85 false, og 88 (.call 27 [.ro] [(.t 87)]) 85 false, og 89 (.mv (.t 8)) 85 false, og 90 (.ia 2 (.t 88) (.t 89)) 85 false, og 91 (.ld (some 2) (.t 90)) 85 false, og 92 (.eqs true [.str, .int] (.t 86) (.t 91)) 85 false, oo 93 (.pick (.t 85) (.c (.bool true)) (.t 92))] [(3, 5)]) (.cond (.t 93) (.seq (.reg [oo 4 (.mv (.c (.bool false)))]) .ret) .skip))))))) (.seq (.reg [ov 121 0, oo 122 (.call 21 [.ro] [(.t 121)]), ov 123 5, ov 124 6, oo 125 (.call 30 [.ro, .ro, .ro] [(.t 122), (.t 123), (.t 124)]), ov 120 125, oo 126 (.ext (.t 120) 0), oo 127 (.ext (.t 120) 1), ov 16 126, ov 17 127]) (.seq (.reg [ov 128 10, ov 129 5, oo 130 (.calld (.t 128) [(.t 129)]), ov 18 130]) (.seq (.seq (.reg [ov 131 18, oo 132 (.bin .eql (.t 131) (.c (.int .i64 0)))]) (.cond (.t 132) (.reg [ov 133 10, ov 134 6, oo 135 (.calld (.t 133) [(.t 134)]), ov 18 135]) .skip)) (.seq (.seq (.reg [ov 136 18, oo 137 (.bin .neq (.t 136) (.c (.int .i64 0)))]) (.cond (.t 137) (.seq (.reg [ov 138 17, ov 139 18, oo 140 (.bin .eql (.t 138) (.t 139)), ov 141 140, og 142 (.mv (.t 16)) 141 true, og 143 (.len (.t 142)) 141 true, og 144 (.bin .eql (.t 143) (.c (.int .i64 0))) 141 true, oo 145 (.pick (.t 141) (.t 144) (.c (.bool false))), ov 4 145]) .ret) .skip)) (.seq (.reg [ov 146 17, oo 147 (.bin .eql (.t 146) (.c (.int .i64 0))), ov 148 147, og 149 (.mv (.t 16)) 148 true, og 150 (.mv (.t 0)) 148 true, og 151 (.call 27 [.ro] [(.t 150)]) 148 true, og 152 (.mv (.t 5)) 148 true, og 153 (.mv (.t 6)) 148 true, og 154 (.call 32 [.ro, .ro, .ro] [(.t 151), (.t 152), (.t 153)]) 148 true, og 155 (.call 31 [.ro, .ro] [(.t 149), (.t 154)]) 148 true, oo 156 (.pick (.t 148) (.t 155) (.c (.bool false))), ov 4 156]) .ret)))))))))))))))
def F5 : F := ⟨2, 157, [0], [(.tmp 4)], B5⟩
set_option maxRecDepth 100000 in
theorem comp5 : compF Try.prog 5 = some F5 := by kernel_rfl
def B6 : C := (.seq (.reg [oo 6 (.mv (.c (.bool false)))]) (.seq (.seq (.reg [oo 16 (.call 12 [] []), oo 17 (.un .not (.t 16))]) (.cond (.t 17) (.seq (.reg [oo 6 (.mv (.c (.bool false)))]) .ret) .skip)) (.seq (.seq (.reg [ov 18 0, oo 19 (.call 19 [.ro] [(.t 18)]), oo 20 (.un .not (.t 19)), ov 21 20, og 22 (.mv (.t 1)) 21 false, og 23 (.lens (.t 22)) 21 false, og 24 (.bin .gtr (.t 23) (.c (.int .i64 300))) 21 false, oo 25 (.pick (.t 21) (.c (.bool true)) (.t 24)), ov 26 25, og 27 (.mv (.t 2)) 26 false, og 28 (.lens (.t 27)) 26 false, og 29 (.bin .gtr (.t 28) (.c (.int .i64 300))) 26 false, oo 30 (.pick (.t 26) (.c (.bool true)) (.t 29))]) (.cond (.t 30) (.seq (.reg [oo 6 (.mv (.c (.bool true)))]) .ret) .skip)) (.seq (.reg [ov 32 0, oo 33 (.call 21 [.ro] [(.t 32)]), ov 34 1, ov 35 2, oo 36 (.call 30 [.ro, .ro, .ro] [(.t 33), (.t 34), (.t 35)]), ov 31 36, oo 37 (.ext (.t 31) 0), oo 38 (.ext (.t 31) 1), ov 7 37, ov 8 38]) (.seq (.seq (.reg [ov 39 8, oo 40 (.bin .neq (.t 39) (.c (.int .i64 0)))]) (.cond (.t 40) (.seq (.reg [ov 41 7, oo 42 (.len (.t 41)), oo 43 (.bin .eql (.t 42) (.c (.int .i64 0))), ov 6 43]) .ret) .skip)) (.seq (.reg [ov 45 0, oo 46 (.call 21 [.ro] [(.t 45)]), ov 47 1, oo 48 (.call 25 [.ro, .ro, .ro] [(.t 46), (.t 47), (.c (.bool false))]), ov 44 48, oo 49 (.ext (.t 44) 0), oo 50 (.ext (.t 44) 1), ov 9 49, ov 10 50]) (.seq (.reg [ov 52 0, oo 53 (.call 21 [.ro] [(.t 52)]), ov 54 2, oo 55 (.call 25 [.ro, .ro, .ro] [(.t 53), (.t 54), (.c (.bool true))]), ov 51 55, oo 56 (.ext (.t 51) 0), oo 57 (.ext (.t 51) 1), ov 11 56, ov 12 57]) (.seq (.seq (.reg [ov 58 10, oo 59 (.bin .neq (.t 58) (.c (.int .i64 0))), ov 60 59, og 61 (.mv (.t 12)) 60 false, og 62 (.bin .neq (.t 61) (.c (.int .i64 0))) 60 false, oo 63 (.pick (.t 60) (.c (.bool true)) (.t 62)), ov 64 63, og 65 (.mv (.t 7)) 64 false, og 66 (.len (.t 65)) 64 false, og 67 (.mv (.t 11)) 64 false, og 68 (.mv (.t 9)) 64 false, og 69 (.bin .sub (.t 67) (.t 68)) 64 false, og 70 (.mnx true (.c (.int .i64 0)) (.t 69)) 64 false, og 71 (.bin .neq (.t 66) (.t 70)) 64 false, oo 72 (.pick (.t 64) (.c (.bool true)) (.t 71))]) (.cond (.t 72) (.seq (.reg [oo 6 (.mv (.c (.bool false)))]) .ret) .skip)) (.seq (.seq (.reg [oo 13 (.mv (.c (.int .i64 0)))]) (.blk 0 (.loop (.seq (.clr 3 [0] [0, 9, 7, 13] [(0, (97, 5)), (7, (47, 2))] []) (.seq (.seq (.reg [ov 73 13, ov 74 7, oo 75 (.len (.t 74)), oo 76 (.bin .lss (.t 73) (.t 75))]) (.cond (.t 76) .skip (.exit 0))) (.seq (.blk 1 (.seq (.reg [ov 80 0, oo 81 (.call 21 [.ro] [(.t 80)]), ov 82 9, ov 83 13, oo 84 (.bin .add (.t 82) (.t 83)), oo 85 (.call 28 [.ro, .ro] [(.t 81), (.t 84)]), ov 79 85, oo 86 (.ext (.t 79) 0), oo 87 (.ext (.t 79) 1), oo 14 (.new [(.str (bs [])), (.int .i64 0)]), ⟨none, (.st 2 (.t 14) (.t 86)), none⟩, ov 15 87]) (.seq (.reg [ov 88 15, oo 89 (.bin .neq (.t 88) (.c (.int .i64 0))), ov 90 89, og 91 (.ld (some 2) (.t 14)) 90 false, og 92 (.mv (.t 7)) 90 false, og 93 (.mv (.t 13)) 90 false, og 94 (.ia 2 (.t 92) (.t 93)) 90 false, og 95 (.ld (some 2) (.t 94)) 90 false, og 96 (.eqs true [.str, .int] (.t 91) (.t 95)) 90 false, oo 97 (.pick (.t 90) (.c (.bool true)) (.t 96))]) (.cond (.t 97) (.seq (.reg [oo 6 (.mv (.c (.bool false)))]) .ret) .skip)))) (.reg [ov 77 13, oo 78 (.bin .add (.t 77) (.c (.int .i64 1))), ov 13 78]))))))) (.seq (.reg [oo 6 (.mv (.c (.bool true)))]) .ret))))))))))
def F6 : F := ⟨3, 98, [0], [(.tmp 6)], B6⟩
set_option maxRecDepth 100000 in
theorem comp6 : compF Try.prog 6 = some F6 := by kernel_rfl
def B7 : C := (.seq (.reg [oo 2 (.mv (.c (.bool false)))]) (.seq (.seq (.reg [oo 15 (.call 12 [] []), oo 16 (.un .not (.t 15))]) (.cond (.t 16) (.seq (.reg [oo 2 (.mv (.c (.bool false)))]) .ret) .skip)) (.seq (.seq (.reg [ov 17 0, oo 18 (.call 13 [.ro] [(.t 17)]), oo 19 (.un .not (.t 18))]) (.cond (.t 19) (.seq (.reg [oo 2 (.mv (.c (.bool true)))]) .ret) .skip)) (.seq (.reg [ov 21 0, oo 22 (.call 15 [.ro] [(.t 21)]), oo 23 (.call 14 [.ro] [(.t 22)]), ov 20 23, oo 24 (.ext (.t 20) 0), oo 25 (.ext (.t 20) 1), oo 26 (.ext (.t 20) 2), ov 3 24, ov 4 25, ov 5 26]) (.seq (.seq (.reg [ov 27 5, oo 28 (.bin .neq (.t 27) (.c (.int .i64 0)))]) (.cond (.t 28) (.seq (.reg [ov 29 3, oo 30 (.len (.t 29)), oo 31 (.bin .eql (.t 30) (.c (.int .i64 0))), ov 2 31]) .ret) .skip)) (.seq (.reg [ov 33 3, oo 34 (.call 21 [.ro] [(.t 33)]), oo 35 (.call 33 [.ro] [(.t 34)]), ov 32 35, oo 36 (.ext (.t 32) 0), oo 37 (.ext (.t 32) 1), ov 6 36, ov 7 37]) (.seq (.seq (.reg [ov 38 7, oo 39 (.bin .neq (.t 38) (.c (.int .i64 0))), ov 40 39, og 41 (.mv (.t 3)) 40 false, og 42 (.call 19 [.ro] [(.t 41)]) 40 false, og 43 (.un .not (.t 42)) 40 false, oo 44 (.pick (.t 40) (.c (.bool true)) (.t 43))]) (.cond (.t 44) (.seq (.reg [oo 2 (.mv (.c (.bool false)))]) .ret) .skip)) (.seq (.reg [oo 8 (.mv (.c (.int .i64 0)))]) (.seq (.seq (.reg [oo 9 (.mv (.c (.int .i64 0)))]) (.blk 0 (.loop (.seq (.clr 1 [0] [3, 9, 8, 6, 0] [(0, (47, 2)), (3, (97, 5))] []) (.seq (.seq (.reg [ov 45 9, ov 46 0, oo 47 (.len (.t 46)), oo 48 (.bin .lss (.t 45) (.t 47))]) (.cond (.t 48) .skip (.exit 0))) (.seq (.blk 1 (.seq (.reg [oo 10 (.mv (.c (.bool false)))]) (.seq (.seq (.reg [oo 11 (.mv (.c (.int .i64 0)))]) (.blk 2 (.loop (.seq (.clr 1 [0] [11, 8, 10, 9, 3, 6, 0] [(0, (47, 2)), (3, (97, 5))] []) (.seq (.seq (.reg [ov 51 11, ov 52 9, oo 53 (.bin .lss (.t 51) (.t 52))]) (.cond (.t 53) .skip (.exit 2))) (.seq (.blk 3 (.reg [ov 56 10, ov 57 56, og 58 (.mv (.t 0)) 57 false, og 59 (.mv (.t 11)) 57 false, og 60 (.ia 2 (.t 58) (.t 59)) 57 false, og 61 (.fa 0 1 (.t 60)) 57 false, og 62 (.ld none (.t 61)) 57 false, og 63 (.mv (.t 0)) 57 false, og 64 (.mv (.t 9)) 57 false, og 65 (.ia 2 (.t 63) (.t 64)) 57 false, og 66 (.fa 0 1 (.t 65)) 57 false, og 67 (.ld none (.t 66)) 57 false, og 68 (.bin .eql (.t 62) (.t 67)) 57 false, oo 69 (.pick (.t 57) (.c (.bool true)) (.t 68)), ov 10 69])) (.reg [ov 54 11, oo 55 (.bin .add (.t 54) (.c (.int .i64 1))), ov 11 55]))))))) (.seq (.reg [ov 70 8, ov 71 10, oo 72 (.un .not (.t 71)), oo 73 (.call 34 [.ro] [(.t 72)]), oo 74 (.bin .add (.t 70) (.t 73)), ov 8 74]) (.seq (.drw [ov 76 3, oo 77 (.call 21 [.ro] [(.t 76)]), ov 78 0, ov 79 9, oo 80 (.ia 2 (.t 78) (.t 79)), oo 81 (.fa 0 1 (.t 80)), oo 82 (.ld none (.t 81)), oo 83 (.call 35 [.ro, .ro] [(.t 77), (.t 82)]), ov 75 83, oo 84 (.ext (.t 75) 0), oo 85 (.ext (.t 75) 1), oo 86 (.ext (.t 75) 2), ov 12 84, ov 13 85, ov 14 86] [(1, 4), (1, 6)]) (.seq (.reg [ov 87 14, oo 88 (.bin .neq (.t 87) (.c (.int .i64 0))), ov 89 88, og 90 (.mv (.t 13)) 89 false, og 91 (.mv (.t 6)) 89 false, og 92 (.bin .gtr (.t 90) (.t 91)) 89 false, oo 93 (.pick (.t 89) (.c (.bool true)) (.t 92)), ov 94 93, og 95 (.mv (.t 12)) 94 false, og 96 (.len (.t 95)) 94 false, og 97 (.bin .eql (.t 96) (.c (.int .i64 0))) 94 false, oo 98 (.pick (.t 94) (.c (.bool true)) (.t 97))]) (.cond (.t 98) (.seq (.reg [oo 2 (.mv (.c (.bool false)))]) .ret) .skip))))))) (.reg [ov 49 9, oo 50 (.bin .add (.t 49) (.c (.int .i64 1))), ov 9 50]))))))) (.seq (.reg [ov 99 6, oo 100 (.bin .eql (.t 99) (.c (.int .i64 0))), ov 101 100, og 102 (.mv (.t 6)) 101 false, og 103 (.mv (.t 8)) 101 false, og 104 (.bin .lss (.t 102) (.t 103)) 101 false, og 105 (.mv (.t 104)) 101 false, og 106 (.mv (.t 6)) 105 true, og 107 (.mv (.t 0)) 105 true, og 108 (.ia 2 (.t 107) (.c (.int .i64 0))) 105 true, og 109 (.fa 0 1 (.t 108)) 105 true, og 110 (.ld none (.t 109)) 105 true, og 111 (.lens (.t 110)) 105 true, og 112 (.bin .mul (.c (.int .i64 8)) (.t 111)) 105 true, og 113 (.bin .leq (.t 106) (.t 112)) 105 true, og 114 (.pick (.t 105) (.t 113) (.c (.bool false))) 101 false, oo 115 (.pick (.t 101) (.c (.bool true)) (.t 114)), ov 2 115]) .ret))))))))))
def F7 : F := ⟨1, 116, [0], [(.tmp 2)], B7⟩
set_option maxRecDepth 100000 in
theorem comp7 : compF Try.prog 7 = some F7 := by kernel_rfl
def B8 : C := (.seq (.reg [oo 4 (.mv (.c (.bool false)))]) (.seq (.seq (.reg [oo 15 (.call 12 [] []), oo 16 (.un .not (.t 15))]) (.cond (.t 16) (.seq (.reg [oo 4 (.mv (.c (.bool false)))]) .ret) .skip)) (.seq (.seq (.reg [ov 17 0, oo 18 (.call 19 [.ro] [(.t 17)]), oo 19 (.un .not (.t 18)), ov 20 19, og 21 (.mv (.t 1)) 20 false, og 22 (.lens (.t 21)) 20 false, og 23 (.bin .gtr (.t 22) (.c (.int .i64 300))) 20 false, oo 24 (.pick (.t 20) (.c (.bool true)) (.t 23))]) (.cond (.t 24) (.seq (.reg [oo 4 (.mv (.c (.bool true)))]) .ret) .skip)) (.seq (.reg [ov 26 0, oo 27 (.call 21 [.ro] [(.t 26)]), ov 28 1, oo 29 (.call 35 [.ro, .ro] [(.t 27), (.t 28)]), ov 25 29, oo 30 (.ext (.t 25) 0), oo 31 (.ext (.t 25) 1), oo 32 (.ext (.t 25) 2), ov 5 30, ov 6 31, ov 7 32]) (.seq (.reg [ov 33 0, ov 34 1, oo 35 (.call 36 [.ro, .ro] [(.t 33), (.t 34)]), oo 8 (.new [.nil, (.int .i64 0), (.int .i64 0)]), ⟨none, (.st 3 (.t 8) (.t 35)), none⟩]) (.seq (.seq (.reg [ov 36 7, oo 37 (.fa 2 1 (.t 8)), oo 38 (.ld none (.t 37)), oo 39 (.bin .neq (.t 36) (.t 38)), ov 40 39, og 41 (.mv (.t 6)) 40 false, og 42 (.fa 1 1 (.t 8)) 40 false, og 43 (.ld none (.t 42)) 40 false, og 44 (.bin .neq (.t 41) (.t 43)) 40 false, oo 45 (.pick (.t 40) (.c (.bool true)) (.t 44)), ov 46 45, og 47 (.mv (.t 5)) 46 false, og 48 (.fa 0 1 (.t 8)) 46 false, og 49 (.ld none (.t 48)) 46 false, og 50 (.call 37 [.ro, .ro] [(.t 47), (.t 49)]) 46 false, og 51 (.un .not (.t 50)) 46 false, oo 52 (.pick (.t 46) (.c (.bool true)) (.t 51))]) (.cond (.t 52) (.seq (.reg [oo 4 (.mv (.c (.bool false)))]) .ret) .skip)) (.seq (.reg [ov 54 0, oo 55 (.call 21 [.ro] [(.t 54)]), oo 56 (.call 38 [.ro] [(.t 55)]), ov 53 56, oo 57 (.ext (.t 53) 0), oo 58 (.ext (.t 53) 1), ov 9 57, ov 10 58]) (.seq (.reg [ov 60 0, oo 61 (.call 21 [.ro] [(.t 60)]), oo 62 (.call 33 [.ro] [(.t 61)]), ov 59 62, oo 63 (.ext (.t 59) 0), oo 64 (.ext (.t 59) 1), ov 11 63, ov 12 64]) (.seq (.seq (.reg [ov 65 0, oo 66 (.call 23 [.ro] [(.t 65)]), ov 13 66]) (.seq (.reg [ov 67 13, oo 68 (.bin .neq (.t 67) (.c (.int .i64 0)))]) (.cond (.t 68) (.seq (.reg [ov 69 10, ov 70 13, oo 71 (.bin .eql (.t 69) (.t 70)), ov 72 71, og 73 (.mv (.t 9)) 72 true, og 74 (.len (.t 73)) 72 true, og 75 (.bin .eql (.t 74) (.c (.int .i64 0))) 72 true, oo 76 (.pick (.t 72) (.t 75) (.c (.bool false))), ov 77 76, og 78 (.mv (.t 12)) 77 true, og 79 (.mv (.t 13)) 77 true, og 80 (.bin .eql (.t 78) (.t 79)) 77 true, oo 81 (.pick (.t 77) (.t 80) (.c (.bool false))), ov 82 81, og 83 (.mv (.t 11)) 82 true, og 84 (.bin .eql (.t 83) (.c (.int .i64 0))) 82 true, oo 85 (.pick (.t 82) (.t 84) (.c (.bool false))), ov 4 85]) .ret) .skip))) (.seq (.reg [oo 14 (.mv (.c (.int .i64 0)))]) (.seq (.seq (.reg [ov 86 0, oo 87 (.len (.t 86)), oo 88 (.bin .gtr (.t 87) (.c (.int .i64 0)))]) (.cond (.t 88) (.reg [ov 89 0, oo 90 (.call 39 [.ro, .ro] [(.t 89), (.c (.int .i64 0))]), ov 14 90]) .skip)) (.seq (.reg [ov 91 10, oo 92 (.bin .eql (.t 91) (.c (.int .i64 0))), ov 93 92, og 94 (.mv (.t 9)) 93 true, og 95 (.mv (.t 0)) 93 true, og 96 (.call 27 [.ro] [(.t 95)]) 93 true, og 97 (.call 31 [.ro, .ro] [(.t 94), (.t 96)]) 93 true, oo 98 (.pick (.t 93) (.t 97) (.c (.bool false))), ov 99 98, og 100 (.mv (.t 12)) 99 true, og 101 (.bin .eql (.t 100) (.c (.int .i64 0))) 99 true, oo 102 (.pick (.t 99) (.t 101) (.c (.bool false))), ov 103 102, og 104 (.mv (.t 11)) 103 true, og 105 (.mv (.t 14)) 103 true, og 106 (.bin .eql (.t 104) (.t 105)) 103 true, oo 107 (.pick (.t 103) (.t 106) (.c (.bool false))), ov 4 107]) .ret))))))))))))
def F8 : F := ⟨2, 108, [0], [(.tmp 4)], B8⟩
set_option maxRecDepth 100000 in
theorem comp8 : compF Try.prog 8 = some F8 := by kernel_rfl
def B12 : C := (.seq (.reg [oo 0 (.mv (.c (.bool false)))]) (.seq (.reg [oo 5 (.call 50 [] []), oo 6 (.call 14 [.ro] [(.t 5)]), ov 4 6, oo 7 (.ext (.t 4) 0), oo 8 (.ext (.t 4) 1), oo 9 (.ext (.t 4) 2), ov 1 7, ov 2 8, ov 3 9]) (.seq (.reg [ov 10 3, oo 11 (.bin .eql (.t 10) (.c (.int .i64 0))), ov 12 11, og 13 (.mv (.t 2)) 12 true, og 14 (.bin .eql (.t 13) (.c (.int .i64 0))) 12 true, oo 15 (.pick (.t 12) (.t 14) (.c (.bool false))), ov 16 15, og 17 (.mv (.t 1)) 16 true, og 18 (.len (.t 17)) 16 true, og 19 (.bin .eql (.t 18) (.c (.int .i64 3))) 16 true, oo 20 (.pick (.t 16) (.t 19) (.c (.bool false))), ov 21 20, og 22 (.mv (.t 1)) 21 true, og 23 (.ia 5 (.t 22) (.c (.int .i64 0))) 21 true, og 24 (.fa 0 1 (.t 23)) 21 true, og 25 (.ld none (.t 24)) 21 true, og 26 (.bin .eql (.t 25) (.c (.int .i64 6))) 21 true, oo 27 (.pick (.t 21) (.t 26) (.c (.bool false))), ov 28 27, og 29 (.mv (.t 1)) 28 true, og 30 (.ia 5 (.t 29) (.c (.int .i64 1))) 28 true, og 31 (.fa 3 1 (.t 30)) 28 true, og 32 (.ld none (.t 31)) 28 true, og 33 (.bin .eql (.t 32) (.c (.str (bs [65])))) 28 true, oo 34 (.pick (.t 28) (.t 33) (.c (.bool false))), ov 0 34]) .ret)))
def F12 : F := ⟨0, 35, [], [(.tmp 0)], B12⟩
set_option maxRecDepth 100000 in
theorem comp12 : compF Try.prog 12 = some F12 := by kernel_rfl
def B13 : C := (.seq (.reg [oo 2 (.mv (.c (.bool false)))]) (.seq (.seq (.reg [oo 3 (.mv (.c (.int .i64 0)))]) (.blk 0 (.loop (.seq (.clr 1 [0] [3, 0] [(0, (47, 2))] []) (.seq (.seq (.reg [ov 4 3, ov 5 0, oo 6 (.len (.t 5)), oo 7 (.bin .lss (.t 4) (.t 6)), ov 8 7, og 9 (.mv (.t 3)) 8 true, og 10 (.bin .lss (.t 9) (.c (.int .i64 125))) 8 true, oo 11 (.pick (.t 8) (.t 10) (.c (.bool false)))]) (.cond (.t 11) .skip (.exit 0))) (.seq (.blk 1 (.seq (.reg [ov 14 0, ov 15 3, oo 16 (.ia 2 (.t 14) (.t 15)), oo 17 (.fa 0 1 (.t 16)), oo 18 (.ld none (.t 17)), oo 19 (.lens (.t 18)), oo 20 (.bin .gtr (.t 19) (.c (.int .i64 300)))]) (.cond (.t 20) (.seq (.reg [oo 2 (.mv (.c (.bool false)))]) .ret) .skip))) (.reg [ov 12 3, oo 13 (.bin .add (.t 12) (.c (.int .i64 1))), ov 3 13]))))))) (.seq (.reg [ov 21 0, oo 22 (.len (.t 21)), oo 23 (.bin .lss (.t 22) (.c (.int .i64 125))), ov 2 23]) .ret)))
def F13 : F := ⟨1, 24, [0], [(.tmp 2)], B13⟩
set_option maxRecDepth 100000 in
theorem comp13 : compF Try.prog 13 = some F13 := by kernel_rfl
def B14 : C := (.seq (.reg [oo 2 (.mv (.c .nil)), oo 3 (.mv (.c (.int .i64 0))), oo 4 (.mv (.c (.int .i64 0)))]) (.seq (.seq (.reg [ov 8 0, oo 9 (.len (.t 8)), oo 10 (.bin .gtr (.t 9) (.c (.int .i64 120)))]) (.cond (.t 10) (.seq (.reg [oo 2 (.mv (.c .nil)), oo 3 (.mv (.c (.int .i64 0))), oo 4 (.mv (.c (.int .i64 2)))]) .ret) .skip)) (.seq (.seq (.reg [ov 11 0, oo 12 (.len (.t 11)), oo 13 (.mv (.c (.int .i64 0)))]) (.blk 0 (.loop (.seq (.clr 1 [0] [11, 12, 13, 0] [(0, (47, 2)), (11, (47, 2))] []) (.seq (.reg [oo 14 (.bin .lss (.t 13) (.t 12))]) (.seq (.cond (.t 14) .skip (.exit 0)) (.seq (.blk 1 (.seq (.reg [ov 15 13, oo 16 (.ia 2 (.t 11) (.t 13)), oo 17 (.ld (some 2) (.t 16)), oo 6 (.new [(.str (bs [])), (.int .i64 0)]), ov 5 15, ⟨none, (.st 2 (.t 6) (.t 17)), none⟩]) (.seq (.drw [oo 18 (.ld (some 2) (.t 6)), oo 19 (.call 52 [.ro] [(.t 18)]), oo 20 (.fa 0 1 (.t 6)), oo 21 (.ld none (.t 20)), oo 22 (.lens (.t 21)), ov 23 0, oo 24 (.ia 2 (.t 23) (.c (.int .i64 0))), oo 25 (.fa 0 1 (.t 24)), oo 26 (.ld none (.t 25)), oo 27 (.lens (.t 26)), oo 28 (.bin .neq (.t 22) (.t 27)), oo 29 (.call 53 [.ro, .ro] [(.t 28), (.c (.int .i64 18))]), ov 30 0, ov 31 5, oo 32 (.sub 2 (.t 30) none (some (.t 31))), oo 33 (.ld (some 2) (.t 6)), oo 34 (.call 54 [.ro, .ro] [(.t 32), (.t 33)]), oo 35 (.call 53 [.ro, .ro] [(.t 34), (.c (.int .i64 13))]), oo 36 (.lit 26 1 [(.t 19), (.t 29), (.t 35)]), oo 37 (.call 51 [.ro] [(.t 36)]), ov 7 37] [(1, 3), (1, 6), (1, 8), (0, 14), (1, 14), (3, 14), (6, 14), (8, 14), (11, 14), (1, 15), (11, 15), (14, 15)]) (.seq (.reg [ov 38 7, oo 39 (.bin .neq (.t 38) (.c (.int .i64 0)))]) (.cond (.t 39) (.seq (.reg [ov 40 5, ov 41 7, oo 2 (.mv (.c .nil)), ov 3 40, ov 4 41]) .ret) .skip))))) (.reg [oo 42 (.bin .add (.t 13) (.c (.int .i64 1))), ov 13 42])))))))) (.seq (.reg [ov 43 0, oo 44 (.call 55 [.ro] [(.t 43)]), ov 2 44, oo 3 (.mv (.c (.int .i64 0))), oo 4 (.mv (.c (.int .i64 0)))]) .ret))))
def F14 : F := ⟨1, 45, [0], [(.tsl 2 97 5), (.tmp 3), (.tmp 4)], B14⟩
set_option maxRecDepth 100000 in
theorem comp14 : compF Try.prog 14 = some F14 := by kernel_rfl
def B15 : C := (.seq (.reg [oo 2 (.mv (.c .nil))]) (.seq (.reg [ov 3 0, oo 4 (.cpy 47 2 24 (.t 3)), ov 2 4]) .ret))
def F15 : F := ⟨1, 5, [0], [(.tsl 2 47 2)], B15⟩
set_option maxRecDepth 100000 in
theorem comp15 : compF Try.prog 15 = some F15 := by kernel_rfl
def B16 : C := (.seq (.reg [oo 2 (.mv (.c (.int .i64 0))), oo 3 (.mv (.c (.int .i64 0)))]) (.seq (.seq (.reg [ov 7 0, oo 8 (.len (.t 7)), oo 9 (.bin .gtr (.t 8) (.c (.int .i64 120)))]) (.cond (.t 9) (.seq (.reg [oo 2 (.mv (.c (.int .i64 0))), oo 3 (.mv (.c (.int .i64 2)))]) .ret) .skip)) (.seq (.seq (.reg [oo 4 (.mv (.c (.int .i64 0)))]) (.blk 0 (.loop (.seq (.clr 1 [0] [0, 4] [(0, (47, 2))] []) (.seq (.seq (.reg [ov 10 4, ov 11 0, oo 12 (.len (.t 11)), oo 13 (.bin .lss (.t 10) (.t 12))]) (.cond (.t 13) .skip (.exit 0))) (.seq (.blk 1 (.seq (.seq (.reg [ov 16 0, ov 17 4, oo 18 (.ia 2 (.t 16) (.t 17)), oo 19 (.ld (some 2) (.t 18)), oo 20 (.call 56 [.ro] [(.t 19)]), ov 5 20]) (.seq (.reg [ov 21 5, oo 22 (.bin .neq (.t 21) (.c (.int .i64 0)))]) (.cond (.t 22) (.seq (.reg [ov 23 4, ov 24 5, ov 2 23, ov 3 24]) .ret) .skip))) (.seq (.seq (.reg [ov 25 0, ov 26 4, oo 27 (.ia 2 (.t 25) (.t 26)), oo 28 (.fa 0 1 (.t 27)), oo 29 (.ld none (.t 28)), oo 30 (.lens (.t 29)), ov 31 0, oo 32 (.ia 2 (.t 31) (.c (.int .i64 0))), oo 33 (.fa 0 1 (.t 32)), oo 34 (.ld none (.t 33)), oo 35 (.lens (.t 34)), oo 36 (.bin .neq (.t 30) (.t 35))]) (.cond (.t 36) (.seq (.reg [ov 37 4, ov 2 37, oo 3 (.mv (.c (.int .i64 18)))]) .ret) .skip)) (.seq (.reg [oo 6 (.mv (.c (.int .i64 0)))]) (.blk 2 (.loop (.seq (.clr 1 [0] [6, 4, 0] [(0, (47, 2))] []) (.seq (.seq (.reg [ov 38 6, ov 39 4, oo 40 (.bin .lss (.t 38) (.t 39))]) (.cond (.t 40) .skip (.exit 2))) (.seq (.blk 3 (.seq (.reg [ov 43 0, ov 44 6, oo 45 (.ia 2 (.t 43) (.t 44)), oo 46 (.ld (some 2) (.t 45)), ov 47 0, ov 48 4, oo 49 (.ia 2 (.t 47) (.t 48)), oo 50 (.ld (some 2) (.t 49)), oo 51 (.eqs false [.str, .int] (.t 46) (.t 50))]) (.cond (.t 51) (.seq (.reg [ov 52 4, ov 2 52, oo 3 (.mv (.c (.int .i64 13)))]) .ret) .skip))) (.reg [ov 41 6, oo 42 (.bin .add (.t 41) (.c (.int .i64 1))), ov 6 42])))))))))) (.reg [ov 14 4, oo 15 (.bin .add (.t 14) (.c (.int .i64 1))), ov 4 15]))))))) (.seq (.reg [oo 2 (.mv (.c (.int .i64 0))), oo 3 (.mv (.c (.int .i64 0)))]) .ret))))
def F16 : F := ⟨1, 53, [0], [(.tmp 2), (.tmp 3)], B16⟩
set_option maxRecDepth 100000 in
theorem comp16 : compF Try.prog 16 = some F16 := by kernel_rfl
def B17 : C := (.seq (.reg [oo 4 (.mv (.c (.bool false)))]) (.seq (.seq (.reg [ov 6 0, oo 7 (.len (.t 6)), ov 8 1, oo 9 (.len (.t 8)), oo 10 (.bin .neq (.t 7) (.t 9))]) (.cond (.t 10) (.seq (.reg [oo 4 (.mv (.c (.bool false)))]) .ret) .skip)) (.seq (.seq (.reg [oo 5 (.mv (.c (.int .i64 0)))]) (.blk 0 (.loop (.seq (.clr 2 [0, 1] [0, 1, 5] [(0, (97, 5)), (1, (97, 5))] []) (.seq (.seq (.reg [ov 11 5, ov 12 0, oo 13 (.len (.t 12)), oo 14 (.bin .lss (.t 11) (.t 13))]) (.cond (.t 14) .skip (.exit 0))) (.seq (.blk 1 (.seq (.reg [ov 17 0, ov 18 5, oo 19 (.ia 5 (.t 17) (.t 18)), oo 20 (.ld (some 5) (.t 19)), ov 21 1, ov 22 5, oo 23 (.ia 5 (.t 21) (.t 22)), oo 24 (.ld (some 5) (.t 23)), oo 25 (.call 57 [.ro, .ro] [(.t 20), (.t 24)]), oo 26 (.un .not (.t 25))]) (.cond (.t 26) (.seq (.reg [oo 4 (.mv (.c (.bool false)))]) .ret) .skip))) (.reg [ov 15 5, oo 16 (.bin .add (.t 15) (.c (.int .i64 1))), ov 5 16]))))))) (.seq (.reg [oo 4 (.mv (.c (.bool true)))]) .ret))))
def F17 : F := ⟨2, 27, [0, 1], [(.tmp 4)], B17⟩
set_option maxRecDepth 100000 in
theorem comp17 : compF Try.prog 17 = some F17 := by kernel_rfl
def B18 : C := (.seq (.reg [oo 2 (.mv (.c .nil))]) (.seq (.seq (.reg [ov 3 0, oo 4 (.len (.t 3)), oo 5 (.bin .eql (.t 4) (.c (.int .i64 0)))]) (.cond (.t 5) (.seq (.reg [oo 2 (.mv (.c .nil))]) .ret) .skip)) (.seq (.reg [ov 6 0, oo 7 (.call 60 [.ro] [(.t 6)]), oo 8 (.call 59 [.ro] [(.t 7)]), oo 9 (.call 58 [(.io 97 5), .ro] [(.c .nil), (.t 8)]), ov 2 9]) .ret)))
def F18 : F := ⟨1, 10, [0], [(.tsl 2 97 5)], B18⟩
set_option maxRecDepth 100000 in
theorem comp18 : compF Try.prog 18 = some F18 := by kernel_rfl
def B19 : C := (.seq (.reg [oo 2 (.mv (.c (.bool false)))]) (.seq (.seq (.reg [ov 4 0, oo 5 (.len (.t 4)), oo 6 (.bin .gtr (.t 5) (.c (.int .i64 250)))]) (.cond (.t 6) (.seq (.reg [oo 2 (.mv (.c (.bool false)))]) .ret) .skip)) (.seq (.seq (.reg [oo 3 (.mv (.c (.int .i64 0)))]) (.blk 0 (.loop (.seq (.clr 1 [0] [0, 3] [(0, (97, 5))] []) (.seq (.seq (.reg [ov 7 3, ov 8 0, oo 9 (.len (.t 8)), oo 10 (.bin .lss (.t 7) (.t 9))]) (.cond (.t 10) .skip (.exit 0))) (.seq (.blk 1 (.seq (.reg [ov 13 0, ov 14 3, oo 15 (.ia 5 (.t 13) (.t 14)), oo 16 (.fa 3 1 (.t 15)), oo 17 (.ld none (.t 16)), oo 18 (.lens (.t 17)), oo 19 (.bin .gtr (.t 18) (.c (.int .i64 300))), ov 20 19, og 21 (.mv (.t 0)) 20 false, og 22 (.mv (.t 3)) 20 false, og 23 (.ia 5 (.t 21) (.t 22)) 20 false, og 24 (.fa 4 1 (.t 23)) 20 false, og 25 (.ld none (.t 24)) 20 false, og 26 (.len (.t 25)) 20 false, og 27 (.bin .gtr (.t 26) (.c (.int .i64 130))) 20 false, oo 28 (.pick (.t 20) (.c (.bool true)) (.t 27))]) (.cond (.t 28) (.seq (.reg [oo 2 (.mv (.c (.bool false)))]) .ret) .skip))) (.reg [ov 11 3, oo 12 (.bin .add (.t 11) (.c (.int .i64 1))), ov 3 12]))))))) (.seq (.reg [oo 2 (.mv (.c (.bool true)))]) .ret))))
def F19 : F := ⟨1, 29, [0], [(.tmp 2)], B19⟩
set_option maxRecDepth 100000 in
theorem comp19 : compF Try.prog 19 = some F19 := by kernel_rfl
def B20 : C := (.seq (.reg [oo 2 (.mv (.c (.int .i64 0))), oo 3 (.mv (.c (.int .i64 0)))]) (.seq (.seq (.reg [ov 9 0, oo 10 (.len (.t 9)), oo 11 (.bin .gtr (.t 10) (.c (.int .i64 240)))]) (.cond (.t 11) (.seq (.reg [oo 2 (.mv (.c (.int .i64 0))), oo 3 (.mv (.c (.int .i64 2)))]) .ret) .skip)) (.seq (.seq (.reg [ov 13 0, oo 14 (.call 61 [.ro] [(.t 13)]), ov 12 14, oo 15 (.ext (.t 12) 0), oo 16 (.ext (.t 12) 1), ov 4 15, ov 5 16]) (.seq (.reg [ov 17 5, oo 18 (.bin .neq (.t 17) (.c (.int .i64 0)))]) (.cond (.t 18) (.seq (.reg [ov 19 4, ov 20 5, ov 2 19, ov 3 20]) .ret) .skip))) (.seq (.reg [ov 21 0, oo 22 (.call 62 [.ro] [(.t 21)]), oo 23 (.call 55 [.ro] [(.t 22)]), ov 6 23]) (.seq (.seq (.reg [ov 24 0, oo 25 (.len (.t 24)), oo 26 (.mv (.c (.int .i64 0)))]) (.blk 0 (.loop (.seq (.clr 1 [0] [24, 6, 25, 26] [(6, (97, 5)), (24, (97, 5))] []) (.seq (.reg [oo 27 (.bin .lss (.t 26) (.t 25))]) (.seq (.cond (.t 27) .skip (.exit 0)) (.seq (.blk 1 (.seq (.reg [ov 28 26, oo 29 (.ia 5 (.t 24) (.t 26)), oo 30 (.ld (some 5) (.t 29)), oo 8 (.new [(.int .i64 0), (.int .i64 0), (.int .i64 0), (.str (bs [])), .nil]), ov 7 28, ⟨none, (.st 5 (.t 8) (.t 30)), none⟩]) (.seq (.reg [ov 31 7, ov 32 6, oo 33 (.len (.t 32)), oo 34 (.bin .geq (.t 31) (.t 33)), ov 35 34, og 36 (.ld (some 5) (.t 8)) 35 false, og 37 (.mv (.t 6)) 35 false, og 38 (.mv (.t 7)) 35 false, og 39 (.ia 5 (.t 37) (.t 38)) 35 false, og 40 (.ld (some 5) (.t 39)) 35 false, og 41 (.call 63 [.ro, .ro] [(.t 36), (.t 40)]) 35 false, og 42 (.un .not (.t 41)) 35 false, oo 43 (.pick (.t 35) (.c (.bool true)) (.t 42))]) (.cond (.t 43) (.seq (.reg [ov 44 7, ov 2 44, oo 3 (.mv (.c (.int .i64 6)))]) .ret) .skip)))) (.reg [oo 45 (.bin .add (.t 26) (.c (.int .i64 1))), ov 26 45])))))))) (.seq (.reg [oo 2 (.mv (.c (.int .i64 0))), oo 3 (.mv (.c (.int .i64 0)))]) .ret))))))
def F20 : F := ⟨1, 46, [0], [(.tmp 2), (.tmp 3)], B20⟩
set_option maxRecDepth 100000 in
theorem comp20 : compF Try.prog 20 = some F20 := by kernel_rfl
def B21 : C := (.seq (.reg [oo 2 (.mv (.c .nil))]) (.seq (.reg [oo 3 (.mv (.c .nil))]) (.seq (.seq (.reg [oo 4 (.mv (.c (.int .i64 0)))]) (.blk 0 (.loop (.seq (.clr 1 [0] [0, 4, 3] [(0, (97, 5)), (3, (97, 5))] []) (.seq (.seq (.reg [ov 6 4, ov 7 0, oo 8 (.len (.t 7)), oo 9 (.bin .lss (.t 6) (.t 8))]) (.cond (.t 9) .skip (.exit 0))) (.seq (.blk 1 (.seq (.reg [ov 12 0, ov 13 4, oo 14 (.ia 5 (.t 12) (.t 13)), oo 15 (.ld (some 5) (.t 14)), oo 5 (.new [(.int .i64 0), (.int .i64 0), (.int .i64 0), (.str (bs [])), .nil]), ⟨none, (.st 5 (.t 5) (.t 15)), none⟩]) (.seq (.reg [oo 16 (.fa 4 1 (.t 5)), oo 17 (.ld none (.t 16)), oo 18 (.call 64 [.ro] [(.t 17)]), oo 19 (.fa 4 1 (.t 5)), ⟨none, (.st 1 (.t 19) (.t 18)), none⟩]) (.reg [ov 20 3, oo 21 (.ld (some 5) (.t 5)), oo 22 (.lit 97 5 [(.t 21)]), oo 23 (.app 97 5 64 (.t 20) (.t 22)), ov 3 23])))) (.reg [ov 10 4, oo 11 (.bin .add (.t 10) (.c (.int .i64 1))), ov 4 11]))))))) (.seq (.reg [ov 24 3, ov 2 24]) .ret))))
def F21 : F := ⟨1, 25, [0], [(.tsl 2 97 5)], B21⟩
set_option maxRecDepth 100000 in
theorem comp21 : compF Try.prog 21 = some F21 := by kernel_rfl
def B22 : C := (.seq (.reg [oo 2 (.mv (.c (.int .i64 0))), oo 3 (.mv (.c (.int .i64 0)))]) (.seq (.seq (.reg [ov 10 0, oo 11 (.len (.t 10)), oo 12 (.bin .gtr (.t 11) (.c (.int .i64 240)))]) (.cond (.t 12) (.seq (.reg [oo 2 (.mv (.c (.int .i64 0))), oo 3 (.mv (.c (.int .i64 2)))]) .ret) .skip)) (.seq (.reg [oo 4 (.mv (.c (.int .i64 (-1))))]) (.seq (.seq (.reg [oo 5 (.mv (.c (.int .i64 0)))]) (.blk 0 (.loop (.seq (.clr 1 [0] [4, 5, 0] [(0, (97, 5))] []) (.seq (.seq (.reg [ov 13 5, ov 14 0, oo 15 (.len (.t 14)), oo 16 (.bin .lss (.t 13) (.t 15))]) (.cond (.t 16) .skip (.exit 0))) (.seq (.blk 1 (.seq (.seq (.reg [ov 19 0, ov 20 5, oo 21 (.ia 5 (.t 19) (.t 20)), oo 22 (.fa 0 1 (.t 21)), oo 23 (.ld none (.t 22)), oo 24 (.bin .neq (.t 23) (.c (.int .i64 (-1))))]) (.cond (.t 24) (.exit 1) .skip)) (.seq (.seq (.reg [ov 25 4, oo 26 (.bin .eql (.t 25) (.c (.int .i64 (-1))))]) (.cond (.t 26) (.reg [ov 27 5, ov 4 27]) .skip)) (.seq (.reg [ov 28 0, ov 29 5, ov 30 4, oo 31 (.call 65 [.ro, .ro, .ro] [(.t 28), (.t 29), (.t 30)]), ov 6 31]) (.seq (.reg [ov 32 6, oo 33 (.bin .neq (.t 32) (.c (.int .i64 0)))]) (.cond (.t 33) (.seq (.reg [ov 34 5, ov 35 6, ov 2 34, ov 3 35]) .ret) .skip)))))) (.reg [ov 17 5, oo 18 (.bin .add (.t 17) (.c (.int .i64 1))), ov 5 18]))))))) (.seq (.reg [ov 36 0, oo 37 (.call 66 [.ro] [(.t 36)]), ov 7 37]) (.seq (.seq (.reg [ov 38 7, oo 39 (.len (.t 38)), oo 40 (.bin .gtr (.t 39) (.c (.int .i64 120)))]) (.cond (.t 40) (.seq (.reg [oo 2 (.mv (.c (.int .i64 0))), oo 3 (.mv (.c (.int .i64 30)))]) .ret) .skip)) (.seq (.reg [ov 41 7, oo 42 (.call 18 [.ro] [(.t 41)]), ov 8 42]) (.seq (.seq (.reg [oo 9 (.mv (.c (.int .i64 0)))]) (.blk 2 (.loop (.seq (.clr 1 [0] [0, 8, 9] [(0, (97, 5)), (8, (97, 5))] []) (.seq (.seq (.reg [ov 43 9, ov 44 0, oo 45 (.len (.t 44)), oo 46 (.bin .lss (.t 43) (.t 45))]) (.cond (.t 46) .skip (.exit 2))) (.seq (.blk 3 (.seq (.reg [ov 49 9, ov 50 8, oo 51 (.len (.t 50)), oo 52 (.bin .geq (.t 49) (.t 51)), ov 53 52, og 54 (.mv (.t 0)) 53 false, og 55 (.mv (.t 9)) 53 false, og 56 (.ia 5 (.t 54) (.t 55)) 53 false, og 57 (.ld (some 5) (.t 56)) 53 false, og 58 (.mv (.t 8)) 53 false, og 59 (.mv (.t 9)) 53 false, og 60 (.ia 5 (.t 58) (.t 59)) 53 false, og 61 (.ld (some 5) (.t 60)) 53 false, og 62 (.call 57 [.ro, .ro] [(.t 57), (.t 61)]) 53 false, og 63 (.un .not (.t 62)) 53 false, oo 64 (.pick (.t 53) (.c (.bool true)) (.t 63))]) (.cond (.t 64) (.seq (.reg [ov 65 9, ov 2 65, oo 3 (.mv (.c (.int .i64 6)))]) .ret) .skip))) (.reg [ov 47 9, oo 48 (.bin .add (.t 47) (.c (.int .i64 1))), ov 9 48]))))))) (.seq (.reg [oo 2 (.mv (.c (.int .i64 0))), oo 3 (.mv (.c (.int .i64 0)))]) .ret)))))))))
def F22 : F := ⟨1, 66, [0], [(.tmp 2), (.tmp 3)], B22⟩
set_option maxRecDepth 100000 in
theorem comp22 : compF Try.prog 22 = some F22 := by kernel_rfl
def B23 : C := (.seq (.reg [oo 2 (.mv (.c (.int .i64 0)))]) (.seq (.reg [ov 6 0, oo 7 (.call 22 [.ro] [(.t 6)]), ov 5 7, oo 8 (.ext (.t 5) 0), oo 9 (.ext (.t 5) 1), ov 3 8, ov 4 9]) (.seq (.reg [ov 10 4, ov 2 10]) .ret)))
def F23 : F := ⟨1, 11, [0], [(.tmp 2)], B23⟩
set_option maxRecDepth 100000 in
theorem comp23 : compF Try.prog 23 = some F23 := by kernel_rfl
def B25 : C := (.seq (.reg [oo 6 (.mv (.c (.int .i64 0))), oo 7 (.mv (.c (.int .i64 0)))]) (.seq (.seq (.reg [ov 9 0, oo 10 (.call 67 [.ro] [(.t 9)]), ov 11 1, oo 12 (.lens (.t 11)), oo 13 (.bin .gtr (.t 12) (.c (.int .i64 256))), oo 14 (.call 53 [.ro, .ro] [(.t 13), (.c (.int .i64 18))]), oo 15 (.lit 26 1 [(.t 10), (.t 14)]), oo 16 (.call 51 [.ro] [(.t 15)]), ov 8 16]) (.seq (.reg [ov 17 8, oo 18 (.bin .neq (.t 17) (.c (.int .i64 0)))]) (.cond (.t 18) (.seq (.reg [ov 19 8, oo 6 (.mv (.c (.int .i64 0))), ov 7 19]) .ret) .skip))) (.seq (.reg [ov 20 0, oo 21 (.call 62 [.ro] [(.t 20)]), ov 22 1, ov 23 2, oo 24 (.call 68 [.ro, .ro, .ro] [(.t 21), (.t 22), (.t 23)]), ov 6 24, oo 7 (.mv (.c (.int .i64 0)))]) .ret)))
def F25 : F := ⟨3, 25, [0], [(.tmp 6), (.tmp 7)], B25⟩
set_option maxRecDepth 100000 in
theorem comp25 : compF Try.prog 25 = some F25 := by kernel_rfl
def B26 : C := (.seq (.reg [oo 6 (.mv (.c (.int .i64 0)))]) (.seq (.reg [oo 7 (.mv (.c (.int .i64 0)))]) (.seq (.seq (.reg [oo 8 (.mv (.c (.int .i64 0)))]) (.blk 0 (.loop (.seq (.clr 3 [0] [2, 0, 1, 8, 7] [(0, (47, 2))] []) (.seq (.seq (.reg [ov 9 8, ov 10 0, oo 11 (.len (.t 10)), oo 12 (.bin .lss (.t 9) (.t 11))]) (.cond (.t 12) .skip (.exit 0))) (.seq (.blk 1 (.seq (.reg [ov 15 0, ov 16 8, oo 17 (.ia 2 (.t 15) (.t 16)), oo 18 (.fa 0 1 (.t 17)), oo 19 (.ld none (.t 18)), ov 20 1, oo 21 (.bin .lss (.t 19) (.t 20)), ov 22 21, og 23 (.mv (.t 2)) 22 false, og 24 (.mv (.t 23)) 22 false, og 25 (.mv (.t 0)) 24 true, og 26 (.mv (.t 8)) 24 true, og 27 (.ia 2 (.t 25) (.t 26)) 24 true, og 28 (.fa 0 1 (.t 27)) 24 true, og 29 (.ld none (.t 28)) 24 true, og 30 (.mv (.t 1)) 24 true, og 31 (.call 69 [.ro, .ro] [(.t 29), (.t 30)]) 24 true, og 32 (.pick (.t 24) (.t 31) (.c (.bool false))) 22 false, oo 33 (.pick (.t 22) (.c (.bool true)) (.t 32))]) (.cond (.t 33) (.reg [ov 34 7, oo 35 (.bin .add (.t 34) (.c (.int .i64 1))), ov 7 35]) .skip))) (.reg [ov 13 8, oo 14 (.bin .add (.t 13) (.c (.int .i64 1))), ov 8 14]))))))) (.seq (.reg [ov 36 7, ov 6 36]) .ret))))
def F26 : F := ⟨3, 37, [0], [(.tmp 6)], B26⟩
set_option maxRecDepth 100000 in
theorem comp26 : compF Try.prog 26 = some F26 := by kernel_rfl
def B27 : C := (.seq (.reg [oo 2 (.mv (.c .nil))]) (.seq (.reg [ov 3 0, oo 4 (.call 66 [.ro] [(.t 3)]), ov 2 4]) .ret))
def F27 : F := ⟨1, 5, [0], [(.tsl 2 47 2)], B27⟩
set_option maxRecDepth 100000 in
theorem comp27 : compF Try.prog 27 = some F27 := by kernel_rfl
def B28 : C := (.seq (.reg [oo 4 (.new [(.str (bs [])), (.int .i64 0)]), oo 5 (.mv (.c (.int .i64 0)))]) (.seq (.seq (.reg [ov 8 0, oo 9 (.call 67 [.ro] [(.t 8)]), ov 6 9]) (.seq (.reg [ov 10 6, oo 11 (.bin .neq (.t 10) (.c (.int .i64 0)))]) (.cond (.t 11) (.seq (.reg [oo 12 (.bld [(.str (bs [])), (.int .i64 0)] []), ov 13 6, ⟨none, (.st 2 (.t 4) (.t 12)), none⟩, ov 5 13]) .ret) .skip))) (.seq (.reg [ov 14 0, oo 15 (.call 62 [.ro] [(.t 14)]), ov 7 15]) (.seq (.seq (.reg [ov 16 1, oo 17 (.bin .lss (.t 16) (.c (.int .i64 0))), ov 18 17, og 19 (.mv (.t 1)) 18 false, og 20 (.mv (.t 7)) 18 false, og 21 (.len (.t 20)) 18 false, og 22 (.bin .geq (.t 19) (.t 21)) 18 false, oo 23 (.pick (.t 18) (.c (.bool true)) (.t 22))]) (.cond (.t 23) (.seq (.reg [oo 24 (.bld [(.str (bs [])), (.int .i64 0)] []), ⟨none, (.st 2 (.t 4) (.t 24)), none⟩, oo 5 (.mv (.c (.int .i64 3)))]) .ret) .skip)) (.seq (.reg [ov 25 7, ov 26 1, oo 27 (.ia 2 (.t 25) (.t 26)), oo 28 (.ld (some 2) (.t 27)), ⟨none, (.st 2 (.t 4) (.t 28)), none⟩, oo 5 (.mv (.c (.int .i64 0)))]) .ret)))))
def F28 : F := ⟨2, 29, [0], [(.cell 4 (some 2)), (.tmp 5)], B28⟩
set_option maxRecDepth 100000 in
theorem comp28 : compF Try.prog 28 = some F28 := by kernel_rfl
def B29 : C := (.seq (.reg [oo 6 (.mv (.c (.bool false)))]) (.seq (.reg [ov 7 1, ov 8 0, oo 9 (.bin .leq (.t 7) (.t 8)), ov 10 9, og 11 (.mv (.t 0)) 10 true, og 12 (.mv (.t 2)) 10 true, og 13 (.bin .leq (.t 11) (.t 12)) 10 true, oo 14 (.pick (.t 10) (.t 13) (.c (.bool false))), ov 6 14]) .ret))
def F29 : F := ⟨3, 15, [], [(.tmp 6)], B29⟩
set_option maxRecDepth 100000 in
theorem comp29 : compF Try.prog 29 = some F29 := by kernel_rfl
def B30 : C := (.seq (.reg [oo 6 (.mv (.c .nil)), oo 7 (.mv (.c (.int .i64 0)))]) (.seq (.seq (.reg [ov 12 0, oo 13 (.call 67 [.ro] [(.t 12)]), ov 14 1, oo 15 (.lens (.t 14)), oo 16 (.bin .gtr (.t 15) (.c (.int .i64 256))), ov 17 16, og 18 (.mv (.t 2)) 17 false, og 19 (.lens (.t 18)) 17 false, og 20 (.bin .gtr (.t 19) (.c (.int .i64 256))) 17 false, oo 21 (.pick (.t 17) (.c (.bool true)) (.t 20)), oo 22 (.call 53 [.ro, .ro] [(.t 21), (.c (.int .i64 18))]), oo 23 (.lit 26 1 [(.t 13), (.t 22)]), oo 24 (.call 51 [.ro] [(.t 23)]), ov 8 24]) (.seq (.reg [ov 25 8, oo 26 (.bin .neq (.t 25) (.c (.int .i64 0)))]) (.cond (.t 26) (.seq (.reg [ov 27 8, oo 6 (.mv (.c .nil)), ov 7 27]) .ret) .skip))) (.seq (.reg [ov 28 0, oo 29 (.call 62 [.ro] [(.t 28)]), ov 9 29]) (.seq (.reg [ov 30 9, ov 31 1, oo 32 (.call 68 [.ro, .ro, .ro] [(.t 30), (.t 31), (.c (.bool false))]), ov 33 9, ov 34 2, oo 35 (.call 68 [.ro, .ro, .ro] [(.t 33), (.t 34), (.c (.bool true))]), ov 10 32, ov 11 35]) (.seq (.seq (.reg [ov 36 11, ov 37 10, oo 38 (.bin .leq (.t 36) (.t 37))]) (.cond (.t 38) (.seq (.reg [oo 6 (.mv (.c .nil)), oo 7 (.mv (.c (.int .i64 0)))]) .ret) .skip)) (.seq (.reg [ov 39 9, ov 40 10, ov 41 11, oo 42 (.sub 2 (.t 39) (some (.t 40)) (some (.t 41))), ov 6 42, oo 7 (.mv (.c (.int .i64 0)))]) .ret))))))
def F30 : F := ⟨3, 43, [0], [(.tsl 6 47 2), (.tmp 7)], B30⟩
set_option maxRecDepth 100000 in
theorem comp30 : compF Try.prog 30 = some F30 := by kernel_rfl
def B31 : C := (.seq (.reg [oo 4 (.mv (.c (.bool false)))]) (.seq (.seq (.reg [ov 6 0, oo 7 (.len (.t 6)), ov 8 1, oo 9 (.len (.t 8)), oo 10 (.bin .neq (.t 7) (.t 9))]) (.cond (.t 10) (.seq (.reg [oo 4 (.mv (.c (.bool false)))]) .ret) .skip)) (.seq (.seq (.reg [oo 5 (.mv (.c (.int .i64 0)))]) (.blk 0 (.loop (.seq (.clr 2 [0, 1] [0, 1, 5] [(0, (47, 2)), (1, (47, 2))] []) (.seq (.seq (.reg [ov 11 5, ov 12 0, oo 13 (.len (.t 12)), oo 14 (.bin .lss (.t 11) (.t 13))]) (.cond (.t 14) .skip (.exit 0))) (.seq (.blk 1 (.seq (.reg [ov 17 0, ov 18 5, oo 19 (.ia 2 (.t 17) (.t 18)), oo 20 (.ld (some 2) (.t 19)), ov 21 1, ov 22 5, oo 23 (.ia 2 (.t 21) (.t 22)), oo 24 (.ld (some 2) (.t 23)), oo 25 (.eqs true [.str, .int] (.t 20) (.t 24))]) (.cond (.t 25) (.seq (.reg [oo 4 (.mv (.c (.bool false)))]) .ret) .skip))) (.reg [ov 15 5, oo 16 (.bin .add (.t 15) (.c (.int .i64 1))), ov 5 16]))))))) (.seq (.reg [oo 4 (.mv (.c (.bool true)))]) .ret))))
def F31 : F := ⟨2, 26, [0, 1], [(.tmp 4)], B31⟩
set_option maxRecDepth 100000 in
theorem comp31 : compF Try.prog 31 = some F31 := by kernel_rfl
def B32 : C := (.seq (.reg [oo 6 (.mv (.c .nil))]) (.seq (.reg [oo 7 (.mv (.c .nil))]) (.seq (.seq (.reg [oo 8 (.mv (.c (.int .i64 0)))]) (.blk 0 (.loop (.seq (.clr 3 [0] [1, 2, 0, 8, 7] [(0, (47, 2)), (7, (47, 2))] []) (.seq (.seq (.reg [ov 9 8, ov 10 0, oo 11 (.len (.t 10)), oo 12 (.bin .lss (.t 9) (.t 11))]) (.cond (.t 12) .skip (.exit 0))) (.seq (.blk 1 (.seq (.reg [ov 15 0, ov 16 8, oo 17 (.ia 2 (.t 15) (.t 16)), oo 18 (.fa 0 1 (.t 17)), oo 19 (.ld none (.t 18)), ov 20 1, oo 21 (.bin .geq (.t 19) (.t 20)), ov 22 21, og 23 (.mv (.t 0)) 22 true, og 24 (.mv (.t 8)) 22 true, og 25 (.ia 2 (.t 23) (.t 24)) 22 true, og 26 (.fa 0 1 (.t 25)) 22 true, og 27 (.ld none (.t 26)) 22 true, og 28 (.mv (.t 2)) 22 true, og 29 (.bin .lss (.t 27) (.t 28)) 22 true, og 30 (.mv (.t 29)) 22 true, og 31 (.mv (.t 0)) 30 false, og 32 (.mv (.t 8)) 30 false, og 33 (.ia 2 (.t 31) (.t 32)) 30 false, og 34 (.fa 0 1 (.t 33)) 30 false, og 35 (.ld none (.t 34)) 30 false, og 36 (.mv (.t 2)) 30 false, og 37 (.call 69 [.ro, .ro] [(.t 35), (.t 36)]) 30 false, og 38 (.pick (.t 30) (.c (.bool true)) (.t 37)) 22 true, oo 39 (.pick (.t 22) (.t 38) (.c (.bool false)))]) (.cond (.t 39) (.reg [ov 40 7, ov 41 0, ov 42 8, oo 43 (.ia 2 (.t 41) (.t 42)), oo 44 (.ld (some 2) (.t 43)), oo 45 (.lit 47 2 [(.t 44)]), oo 46 (.app 47 2 24 (.t 40) (.t 45)), ov 7 46]) .skip))) (.reg [ov 13 8, oo 14 (.bin .add (.t 13) (.c (.int .i64 1))), ov 8 14]))))))) (.seq (.reg [ov 47 7, ov 6 47]) .ret))))
def F32 : F := ⟨3, 48, [0], [(.tsl 6 47 2)], B32⟩
set_option maxRecDepth 100000 in
theorem comp32 : compF Try.prog 32 = some F32 := by kernel_rfl
def B34 : C := (.seq (.reg [oo 2 (.mv (.c (.int .i64 0)))]) (.seq (.seq (.reg [ov 3 0]) (.cond (.t 3) (.seq (.reg [oo 2 (.mv (.c (.int .i64 1)))]) .ret) .skip)) (.seq (.reg [oo 2 (.mv (.c (.int .i64 0)))]) .ret)))
def F34 : F := ⟨1, 4, [], [(.tmp 2)], B34⟩
set_option maxRecDepth 100000 in
theorem comp34 : compF Try.prog 34 = some F34 := by kernel_rfl
def B37 : C := (.seq (.reg [oo 4 (.mv (.c (.bool false)))]) (.seq (.seq (.reg [ov 6 0, oo 7 (.len (.t 6)), ov 8 1, oo 9 (.len (.t 8)), oo 10 (.bin .neq (.t 7) (.t 9))]) (.cond (.t 10) (.seq (.reg [oo 4 (.mv (.c (.bool false)))]) .ret) .skip)) (.seq (.seq (.reg [oo 5 (.mv (.c (.int .i64 0)))]) (.blk 0 (.loop (.seq (.clr 2 [0, 1] [0, 1, 5] [(0, (3, 1)), (1, (3, 1))] []) (.seq (.seq (.reg [ov 11 5, ov 12 0, oo 13 (.len (.t 12)), oo 14 (.bin .lss (.t 11) (.t 13))]) (.cond (.t 14) .skip (.exit 0))) (.seq (.blk 1 (.seq (.reg [ov 17 0, ov 18 5, oo 19 (.ia 1 (.t 17) (.t 18)), oo 20 (.ld none (.t 19)), ov 21 1, ov 22 5, oo 23 (.ia 1 (.t 21) (.t 22)), oo 24 (.ld none (.t 23)), oo 25 (.bin .neq (.t 20) (.t 24))]) (.cond (.t 25) (.seq (.reg [oo 4 (.mv (.c (.bool false)))]) .ret) .skip))) (.reg [ov 15 5, oo 16 (.bin .add (.t 15) (.c (.int .i64 1))), ov 5 16]))))))) (.seq (.reg [oo 4 (.mv (.c (.bool true)))]) .ret))))
def F37 : F := ⟨2, 26, [0, 1], [(.tmp 4)], B37⟩
set_option maxRecDepth 100000 in
theorem comp37 : compF Try.prog 37 = some F37 := by kernel_rfl
def B50 : C := (.seq (.reg [oo 0 (.mv (.c .nil))]) (.seq (.reg [oo 1 (.bld [(.str (bs [])), (.int .i64 0)] [(0, (1, (.c (.str (bs [65]))))), (1, (1, (.c (.int .i64 1))))]), oo 2 (.bld [(.str (bs [])), (.int .i64 0)] [(0, (1, (.c (.str (bs [67]))))), (1, (1, (.c (.int .i64 2))))]), oo 3 (.lit 47 2 [(.t 1), (.t 2)]), ov 0 3]) .ret))
def F50 : F := ⟨0, 4, [], [(.tsl 0 47 2)], B50⟩
set_option maxRecDepth 100000 in
theorem comp50 : compF Try.prog 50 = some F50 := by kernel_rfl
def B51 : C := (.seq (.reg [oo 2 (.mv (.c (.int .i64 0)))]) (.seq (.seq (.reg [ov 5 0, oo 6 (.len (.t 5)), oo 7 (.mv (.c (.int .i64 0)))]) (.blk 0 (.loop (.seq (.clr 1 [0] [5, 6, 7] [(5, (26, 1))] []) (.seq (.reg [oo 8 (.bin .lss (.t 7) (.t 6))]) (.seq (.cond (.t 8) .skip (.exit 0)) (.seq (.blk 1 (.seq (.reg [oo 9 (.ia 1 (.t 5) (.t 7)), oo 10 (.ld none (.t 9)), ov 4 10]) (.seq (.reg [ov 11 4, oo 12 (.bin .neq (.t 11) (.c (.int .i64 0)))]) (.cond (.t 12) (.seq (.reg [ov 13 4, ov 2 13]) .ret) .skip)))) (.reg [oo 14 (.bin .add (.t 7) (.c (.int .i64 1))), ov 7 14])))))))) (.seq (.reg [oo 2 (.mv (.c (.int .i64 0)))]) .ret)))
def F51 : F := ⟨1, 15, [0], [(.tmp 2)], B51⟩
set_option maxRecDepth 100000 in
theorem comp51 : compF Try.prog 51 = some F51 := by kernel_rfl
def B52 : C := (.seq (.reg [oo 1 (.box (.t 0)), oo 2 (.mv (.c (.int .i64 0)))]) (.seq (.drw [oo 3 (.fa 0 1 (.t 1)), oo 4 (.ld none (.t 3)), oo 5 (.bin .eql (.t 4) (.c (.str (bs [])))), ov 6 5, og 7 (.fa 0 1 (.t 1)) 6 false, og 8 (.ld none (.t 7)) 6 false, og 9 (.lens (.t 8)) 6 false, og 10 (.bin .gtr (.t 9) (.c (.int .i64 256))) 6 false, oo 11 (.pick (.t 6) (.c (.bool true)) (.t 10)), oo 12 (.call 53 [.ro, .ro] [(.t 11), (.c (.int .i64 18))]), oo 13 (.fa 1 1 (.t 1)), oo 14 (.ld none (.t 13)), oo 15 (.bin .lss (.t 14) (.c (.int .i64 1))), ov 16 15, og 17 (.fa 1 1 (.t 1)) 16 false, og 18 (.ld none (.t 17)) 16 false, og 19 (.bin .gtr (.t 18) (.c (.int .i64 60))) 16 false, oo 20 (.pick (.t 16) (.c (.bool true)) (.t 19)), oo 21 (.call 53 [.ro, .ro] [(.t 20), (.c (.int .i64 3))]), oo 22 (.lit 26 1 [(.t 12), (.t 21)]), oo 23 (.call 51 [.ro] [(.t 22)]), ov 2 23] [(9, 11)]) .ret))
def F52 : F := ⟨1, 24, [], [(.tmp 2)], B52⟩
set_option maxRecDepth 100000 in
theorem comp52 : compF Try.prog 52 = some F52 := by kernel_rfl
def B53 : C := (.seq (.reg [oo 4 (.mv (.c (.int .i64 0)))]) (.seq (.seq (.reg [ov 5 0]) (.cond (.t 5) (.seq (.reg [ov 6 1, ov 4 6]) .ret) .skip)) (.seq (.reg [oo 4 (.mv (.c (.int .i64 0)))]) .ret)))
def F53 : F := ⟨2, 7, [], [(.tmp 4)], B53⟩
set_option maxRecDepth 100000 in
theorem comp53 : compF Try.prog 53 = some F53 := by kernel_rfl
def B54 : C := (.seq (.reg [oo 3 (.box (.t 1)), oo 4 (.mv (.c (.bool false)))]) (.seq (.reg [ov 5 0, oo 6 (.ld (some 2) (.t 3)), oo 7 (.call 76 [.ro, .ro] [(.t 5), (.t 6)]), oo 8 (.bin .geq (.t 7) (.c (.int .i64 0))), ov 4 8]) .ret))
def F54 : F := ⟨2, 9, [0], [(.tmp 4)], B54⟩
set_option maxRecDepth 100000 in
theorem comp54 : compF Try.prog 54 = some F54 := by kernel_rfl
def B55 : C := (.seq (.reg [oo 2 (.mv (.c .nil))]) (.seq (.seq (.reg [ov 3 0, oo 4 (.len (.t 3)), oo 5 (.bin .eql (.t 4) (.c (.int .i64 0)))]) (.cond (.t 5) (.seq (.reg [oo 2 (.mv (.c .nil))]) .ret) .skip)) (.seq (.reg [ov 6 0, oo 7 (.call 89 [.ro] [(.t 6)]), oo 8 (.call 88 [.ro, .ro] [(.t 7), (.c (.fn 90 []))]), oo 9 (.call 87 [(.io 97 5), .ro] [(.c .nil), (.t 8)]), ov 2 9]) .ret)))
def F55 : F := ⟨1, 10, [0], [(.tsl 2 97 5)], B55⟩
set_option maxRecDepth 100000 in
theorem comp55 : compF Try.prog 55 = some F55 := by kernel_rfl
def B56 : C := (.seq (.reg [oo 1 (.box (.t 0)), oo 2 (.mv (.c (.int .i64 0)))]) (.seq (.seq (.reg [oo 3 (.fa 0 1 (.t 1)), oo 4 (.ld none (.t 3)), oo 5 (.lens (.t 4)), oo 6 (.call 29 [.ro, .ro, .ro] [(.t 5), (.c (.int .i64 1)), (.c (.int .i64 256))]), oo 7 (.un .not (.t 6))]) (.cond (.t 7) (.seq (.reg [oo 2 (.mv (.c (.int .i64 18)))]) .ret) .skip)) (.seq (.reg [oo 8 (.fa 1 1 (.t 1)), oo 9 (.ld none (.t 8)), oo 10 (.call 29 [.ro, .ro, .ro] [(.t 9), (.c (.int .i64 1)), (.c (.int .i64 60))]), oo 11 (.un .not (.t 10)), oo 12 (.call 34 [.ro] [(.t 11)]), oo 13 (.bin .mul (.c (.int .i64 3)) (.t 12)), ov 2 13]) .ret)))
def F56 : F := ⟨1, 14, [], [(.tmp 2)], B56⟩
set_option maxRecDepth 100000 in
theorem comp56 : compF Try.prog 56 = some F56 := by kernel_rfl
def B57 : C := (.seq (.reg [oo 2 (.box (.t 0)), oo 3 (.box (.t 1)), oo 4 (.mv (.c (.bool false)))]) (.seq (.reg [oo 5 (.fa 0 1 (.t 2)), oo 6 (.ld none (.t 5)), oo 7 (.fa 0 1 (.t 3)), oo 8 (.ld none (.t 7)), oo 9 (.bin .eql (.t 6) (.t 8)), ov 10 9, og 11 (.fa 1 1 (.t 2)) 10 true, og 12 (.ld none (.t 11)) 10 true, og 13 (.fa 1 1 (.t 3)) 10 true, og 14 (.ld none (.t 13)) 10 true, og 15 (.bin .eql (.t 12) (.t 14)) 10 true, oo 16 (.pick (.t 10) (.t 15) (.c (.bool false))), ov 17 16, og 18 (.fa 2 1 (.t 2)) 17 true, og 19 (.ld none (.t 18)) 17 true, og 20 (.fa 2 1 (.t 3)) 17 true, og 21 (.ld none (.t 20)) 17 true, og 22 (.bin .eql (.t 19) (.t 21)) 17 true, oo 23 (.pick (.t 17) (.t 22) (.c (.bool false))), ov 24 23, og 25 (.fa 3 1 (.t 2)) 24 true, og 26 (.ld none (.t 25)) 24 true, og 27 (.fa 3 1 (.t 3)) 24 true, og 28 (.ld none (.t 27)) 24 true, og 29 (.bin .eql (.t 26) (.t 28)) 24 true, oo 30 (.pick (.t 24) (.t 29) (.c (.bool false))), ov 31 30, og 32 (.fa 4 1 (.t 2)) 31 true, og 33 (.ld none (.t 32)) 31 true, og 34 (.fa 4 1 (.t 3)) 31 true, og 35 (.ld none (.t 34)) 31 true, og 36 (.call 37 [.ro, .ro] [(.t 33), (.t 35)]) 31 true, oo 37 (.pick (.t 31) (.t 36) (.c (.bool false))), ov 4 37]) .ret))
def F57 : F := ⟨2, 38, [], [(.tmp 4)], B57⟩
set_option maxRecDepth 100000 in
theorem comp57 : compF Try.prog 57 = some F57 := by kernel_rfl
def B58 : C := (.seq (.reg [oo 4 (.mv (.c .nil))]) (.seq (.seq (.reg [ov 8 1, oo 9 (.len (.t 8)), oo 10 (.bin .eql (.t 9) (.c (.int .i64 1)))]) (.cond (.t 10) (.seq (.reg [ov 11 0, ov 12 1, oo 13 (.ia 2 (.t 12) (.c (.int .i64 0))), oo 14 (.fa 0 1 (.t 13)), oo 15 (.ld none (.t 14)), ov 16 1, oo 17 (.ia 2 (.t 16) (.c (.int .i64 0))), oo 18 (.fa 1 1 (.t 17)), oo 19 (.ld none (.t 18)), oo 20 (.bld [(.int .i64 0), (.int .i64 0), (.int .i64 0), (.str (bs [])), .nil] [(0, (1, (.c (.int .i64 (-1))))), (3, (1, (.t 15))), (4, (1, (.t 19)))]), oo 21 (.lit 97 5 [(.t 20)]), oo 22 (.app 97 5 64 (.t 11) (.t 21)), ov 4 22]) .ret) .skip)) (.seq (.reg [oo 5 (.mv (.c (.int .i64 0)))]) (.seq (.blk 0 (.loop (.seq (.clr 2 [0, 1] [0, 5, 1] [(0, (97, 5)), (1, (140, 2)), (0, (97, 5))] []) (.seq (.seq (.drw [ov 23 1, oo 24 (.ia 2 (.t 23) (.c (.int .i64 0))), oo 25 (.fa 0 1 (.t 24)), oo 26 (.ld none (.t 25)), ov 27 5, oo 28 (.call 73 [.ro, .ro] [(.t 26), (.t 27)]), ov 29 1, ov 30 1, oo 31 (.len (.t 30)), oo 32 (.bin .sub (.t 31) (.c (.int .i64 1))), oo 33 (.ia 2 (.t 29) (.t 32)), oo 34 (.fa 0 1 (.t 33)), oo 35 (.ld none (.t 34)), ov 36 5, oo 37 (.call 73 [.ro, .ro] [(.t 35), (.t 36)]), oo 38 (.bin .eql (.t 28) (.t 37))] [(5, 8), (5, 10), (5, 12)]) (.cond (.t 38) .skip (.exit 0))) (.blk 1 (.reg [ov 39 5, oo 40 (.bin .add (.t 39) (.c (.int .i64 1))), ov 5 40])))))) (.seq (.reg [oo 6 (.mv (.c (.int .i64 0)))]) (.seq (.blk 2 (.loop (.seq (.clr 2 [0, 1] [0, 5, 1, 6] [(0, (97, 5)), (1, (140, 2)), (0, (97, 5))] []) (.seq (.seq (.reg [ov 41 1, ov 42 6, oo 43 (.ia 2 (.t 41) (.t 42)), oo 44 (.fa 0 1 (.t 43)), oo 45 (.ld none (.t 44)), ov 46 5, oo 47 (.call 73 [.ro, .ro] [(.t 45), (.t 46)]), oo 48 (.bin .eql (.t 47) (.c (.int .i64 0)))]) (.cond (.t 48) .skip (.exit 2))) (.blk 3 (.reg [ov 49 6, oo 50 (.bin .add (.t 49) (.c (.int .i64 1))), ov 6 50])))))) (.seq (.reg [ov 51 0, oo 52 (.len (.t 51)), ov 7 52]) (.seq (.reg [ov 53 0, ov 54 5, ov 55 7, oo 56 (.bin .add (.t 55) (.c (.int .i64 1))), oo 57 (.bld [(.int .i64 0), (.int .i64 0), (.int .i64 0), (.str (bs [])), .nil] [(0, (1, (.t 54))), (1, (1, (.t 56)))]), oo 58 (.lit 97 5 [(.t 57)]), oo 59 (.app 97 5 64 (.t 53) (.t 58)), ov 0 59]) (.seq (.reg [ov 60 0, ov 61 1, ov 62 6, oo 63 (.sub 2 (.t 61) none (some (.t 62))), oo 64 (.call 58 [(.io 97 5), .ro] [(.t 60), (.t 63)]), ov 0 64]) (.seq (.reg [ov 65 0, ov 66 7, ov 67 0, oo 68 (.len (.t 67)), oo 69 (.ia 5 (.t 65) (.t 66)), oo 70 (.fa 2 1 (.t 69)), ⟨none, (.st 1 (.t 70) (.t 68)), none⟩]) (.seq (.reg [ov 71 0, ov 72 1, ov 73 6, oo 74 (.sub 2 (.t 72) (some (.t 73)) none), oo 75 (.call 58 [(.io 97 5), .ro] [(.t 71), (.t 74)]), ov 4 75]) .ret)))))))))))
def F58 : F := ⟨2, 76, [0, 1], [(.tsl 4 97 5)], B58⟩
set_option maxRecDepth 100000 in
theorem comp58 : compF Try.prog 58 = some F58 := by kernel_rfl
def B59 : C := (.seq (.reg [oo 2 (.mv (.c .nil))]) (.seq (.reg [oo 3 (.mv (.c .nil))]) (.seq (.seq (.reg [oo 4 (.mv (.c (.int .i64 0)))]) (.blk 0 (.loop (.seq (.clr 1 [0] [0, 4, 3] [(0, (47, 2)), (3, (140, 2))] []) (.seq (.seq (.reg [ov 6 4, ov 7 0, oo 8 (.len (.t 7)), oo 9 (.bin .lss (.t 6) (.t 8))]) (.cond (.t 9) .skip (.exit 0))) (.seq (.blk 1 (.seq (.reg [ov 12 3, oo 13 (.len (.t 12)), ov 5 13]) (.seq (.reg [ov 14 5, oo 15 (.bin .gtr (.t 14) (.c (.int .i64 0))), ov 16 15, og 17 (.mv (.t 3)) 16 true, og 18 (.mv (.t 5)) 16 true, og 19 (.bin .sub (.t 18) (.c (.int .i64 1))) 16 true, og 20 (.ia 2 (.t 17) (.t 19)) 16 true, og 21 (.fa 0 1 (.t 20)) 16 true, og 22 (.ld none (.t 21)) 16 true, og 23 (.mv (.t 0)) 16 true, og 24 (.mv (.t 4)) 16 true, og 25 (.ia 2 (.t 23) (.t 24)) 16 true, og 26 (.fa 0 1 (.t 25)) 16 true, og 27 (.ld none (.t 26)) 16 true, og 28 (.bin .eql (.t 22) (.t 27)) 16 true, oo 29 (.pick (.t 16) (.t 28) (.c (.bool false)))]) (.cond (.t 29) (.drw [ov 30 3, ov 31 5, oo 32 (.bin .sub (.t 31) (.c (.int .i64 1))), ov 33 3, ov 34 5, oo 35 (.bin .sub (.t 34) (.c (.int .i64 1))), oo 36 (.ia 2 (.t 33) (.t 35)), oo 37 (.fa 1 1 (.t 36)), oo 38 (.ld none (.t 37)), ov 39 0, ov 40 4, oo 41 (.ia 2 (.t 39) (.t 40)), oo 42 (.fa 1 1 (.t 41)), oo 43 (.ld none (.t 42)), oo 44 (.lit 3 1 [(.t 43)]), oo 45 (.app 3 1 8 (.t 38) (.t 44)), oo 46 (.ia 2 (.t 30) (.t 32)), oo 47 (.fa 1 1 (.t 46)), ⟨none, (.st 1 (.t 47) (.t 45)), none⟩] [(6, 14), (8, 14)]) (.drw [ov 48 3, ov 49 0, ov 50 4, oo 51 (.ia 2 (.t 49) (.t 50)), oo 52 (.fa 0 1 (.t 51)), oo 53 (.ld none (.t 52)), ov 54 0, ov 55 4, oo 56 (.ia 2 (.t 54) (.t 55)), oo 57 (.fa 1 1 (.t 56)), oo 58 (.ld none (.t 57)), oo 59 (.lit 3 1 [(.t 58)]), oo 60 (.bld [(.str (bs [])), .nil] [(0, (1, (.t 53))), (1, (1, (.t 59)))]), oo 61 (.lit 140 2 [(.t 60)]), oo 62 (.app 140 2 40 (.t 48) (.t 61)), ov 3 62] [(3, 11), (5, 11)]))))) (.reg [ov 10 4, oo 11 (.bin .add (.t 10) (.c (.int .i64 1))), ov 4 11]))))))) (.seq (.reg [ov 63 3, ov 2 63]) .ret))))
def F59 : F := ⟨1, 64, [0], [(.tsl 2 140 2)], B59⟩
set_option maxRecDepth 100000 in
theorem comp59 : compF Try.prog 59 = some F59 := by kernel_rfl
def B60 : C := (.seq (.reg [oo 2 (.mv (.c .nil))]) (.seq (.reg [oo 3 (.mv (.c .nil))]) (.seq (.seq (.reg [oo 4 (.mv (.c (.int .i64 0)))]) (.blk 0 (.loop (.seq (.clr 1 [0] [0, 4, 3] [(0, (47, 2)), (3, (47, 2))] []) (.seq (.seq (.reg [ov 6 4, ov 7 0, oo 8 (.len (.t 7)), oo 9 (.bin .lss (.t 6) (.t 8))]) (.cond (.t 9) .skip (.exit 0))) (.seq (.blk 1 (.seq (.reg [ov 12 3, oo 13 (.len (.t 12)), ov 5 13]) (.seq (.reg [ov 14 3, ov 15 0, ov 16 4, oo 17 (.ia 2 (.t 15) (.t 16)), oo 18 (.ld (some 2) (.t 17)), oo 19 (.lit 47 2 [(.t 18)]), oo 20 (.app 47 2 24 (.t 14) (.t 19)), ov 3 20]) (.seq (.blk 2 (.loop (.seq (.clr 1 [0] [5, 4, 0, 3] [(0, (47, 2)), (3, (47, 2))] []) (.seq (.seq (.reg [ov 21 5, oo 22 (.bin .gtr (.t 21) (.c (.int .i64 0))), ov 23 22, og 24 (.mv (.t 0)) 23 true, og 25 (.mv (.t 4)) 23 true, og 26 (.ia 2 (.t 24) (.t 25)) 23 true, og 27 (.ld (some 2) (.t 26)) 23 true, og 28 (.mv (.t 3)) 23 true, og 29 (.mv (.t 5)) 23 true, og 30 (.bin .sub (.t 29) (.c (.int .i64 1))) 23 true, og 31 (.ia 2 (.t 28) (.t 30)) 23 true, og 32 (.ld (some 2) (.t 31)) 23 true, og 33 (.call 91 [.ro, .ro] [(.t 27), (.t 32)]) 23 true, oo 34 (.pick (.t 23) (.t 33) (.c (.bool false)))]) (.cond (.t 34) .skip (.exit 2))) (.blk 3 (.seq (.reg [ov 35 3, ov 36 5, ov 37 3, ov 38 5, oo 39 (.bin .sub (.t 38) (.c (.int .i64 1))), oo 40 (.ia 2 (.t 37) (.t 39)), oo 41 (.ld (some 2) (.t 40)), oo 42 (.ia 2 (.t 35) (.t 36)), ⟨none, (.st 2 (.t 42) (.t 41)), none⟩]) (.reg [ov 43 5, oo 44 (.bin .sub (.t 43) (.c (.int .i64 1))), ov 5 44]))))))) (.reg [ov 45 3, ov 46 5, ov 47 0, ov 48 4, oo 49 (.ia 2 (.t 47) (.t 48)), oo 50 (.ld (some 2) (.t 49)), oo 51 (.ia 2 (.t 45) (.t 46)), ⟨none, (.st 2 (.t 51) (.t 50)), none⟩]))))) (.reg [ov 10 4, oo 11 (.bin .add (.t 10) (.c (.int .i64 1))), ov 4 11]))))))) (.seq (.reg [ov 52 3, ov 2 52]) .ret))))
def F60 : F := ⟨1, 53, [0], [(.tsl 2 47 2)], B60⟩
set_option maxRecDepth 100000 in
theorem comp60 : compF Try.prog 60 = some F60 := by kernel_rfl
def B61 : C := (.seq (.reg [oo 2 (.mv (.c (.int .i64 0))), oo 3 (.mv (.c (.int .i64 0)))]) (.seq (.reg [oo 4 (.mv (.c .nil))]) (.seq (.reg [oo 5 (.mv (.c (.int .i64 0)))]) (.seq (.seq (.reg [ov 13 0, oo 14 (.len (.t 13)), oo 15 (.mv (.c (.int .i64 0)))]) (.blk 0 (.loop (.seq (.clr 1 [0] [13, 14, 15, 4, 5] [(4, (9, 1)), (13, (97, 5))] []) (.seq (.reg [oo 16 (.bin .lss (.t 15) (.t 14))]) (.seq (.cond (.t 16) .skip (.exit 0)) (.seq (.blk 1 (.seq (.reg [ov 17 15, oo 18 (.ia 5 (.t 13) (.t 15)), oo 19 (.ld (some 5) (.t 18)), oo 7 (.new [(.int .i64 0), (.int .i64 0), (.int .i64 0), (.str (bs [])), .nil]), ov 6 17, ⟨none, (.st 5 (.t 7) (.t 19)), none⟩]) (.seq (.seq (.reg [oo 20 (.fa 0 1 (.t 7)), oo 21 (.ld none (.t 20)), oo 22 (.bin .neq (.t 21) (.c (.int .i64 (-1))))]) (.cond (.t 22) (.exit 1) .skip)) (.seq (.seq (.reg [oo 23 (.ld (some 5) (.t 7)), oo 24 (.call 92 [.ro] [(.t 23)]), ov 8 24]) (.seq (.reg [ov 25 8, oo 26 (.bin .neq (.t 25) (.c (.int .i64 0)))]) (.cond (.t 26) (.seq (.reg [ov 27 6, ov 28 8, ov 2 27, ov 3 28]) .ret) .skip))) (.seq (.reg [oo 9 (.mv (.c (.bool true)))]) (.seq (.seq (.reg [oo 10 (.mv (.c (.int .i64 1)))]) (.blk 2 (.loop (.seq (.clr 1 [0] [10, 9, 6, 4, 5, 7, 15, 13, 14] [(4, (9, 1)), (13, (97, 5))] [(7, (4, (3, 1)))]) (.seq (.seq (.reg [ov 29 10, oo 30 (.fa 4 1 (.t 7)), oo 31 (.ld none (.t 30)), oo 32 (.len (.t 31)), oo 33 (.bin .lss (.t 29) (.t 32))]) (.cond (.t 33) .skip (.exit 2))) (.seq (.blk 3 (.reg [ov 36 9, ov 37 36, og 38 (.fa 4 1 (.t 7)) 37 true, og 39 (.ld none (.t 38)) 37 true, og 40 (.mv (.t 10)) 37 true, og 41 (.bin .sub (.t 40) (.c (.int .i64 1))) 37 true, og 42 (.ia 1 (.t 39) (.t 41)) 37 true, og 43 (.ld none (.t 42)) 37 true, og 44 (.fa 4 1 (.t 7)) 37 true, og 45 (.ld none (.t 44)) 37 true, og 46 (.mv (.t 10)) 37 true, og 47 (.ia 1 (.t 45) (.t 46)) 37 true, og 48 (.ld none (.t 47)) 37 true, og 49 (.bin .lss (.t 43) (.t 48)) 37 true, oo 50 (.pick (.t 37) (.t 49) (.c (.bool false))), ov 9 50])) (.reg [ov 34 10, oo 35 (.bin .add (.t 34) (.c (.int .i64 1))), ov 10 35]))))))) (.seq (.reg [ov 51 4, oo 52 (.len (.t 51)), oo 53 (.bin .gtr (.t 52) (.c (.int .i64 0))), ov 54 53, og 55 (.mv (.t 4)) 54 true, og 56 (.ia 1 (.t 55) (.c (.int .i64 0))) 54 true, og 57 (.ld none (.t 56)) 54 true, og 58 (.lens (.t 57)) 54 true, og 59 (.fa 3 1 (.t 7)) 54 true, og 60 (.ld none (.t 59)) 54 true, og 61 (.lens (.t 60)) 54 true, og 62 (.bin .neq (.t 58) (.t 61)) 54 true, oo 63 (.pick (.t 54) (.t 62) (.c (.bool false))), ov 11 63]) (.seq (.seq (.drw [ov 64 11, oo 65 (.call 53 [.ro, .ro] [(.t 64), (.c (.int .i64 18))]), ov 66 9, oo 67 (.un .not (.t 66)), oo 68 (.call 53 [.ro, .ro] [(.t 67), (.c (.int .i64 14))]), ov 69 4, oo 70 (.fa 3 1 (.t 7)), oo 71 (.ld none (.t 70)), oo 72 (.call 93 [.ro, .ro] [(.t 69), (.t 71)]), oo 73 (.call 53 [.ro, .ro] [(.t 72), (.c (.int .i64 13))]), oo 74 (.lit 26 1 [(.t 65), (.t 68), (.t 73)]), oo 75 (.call 51 [.ro] [(.t 74)]), ov 12 75] [(1, 7), (4, 7)]) (.seq (.reg [ov 76 12, oo 77 (.bin .neq (.t 76) (.c (.int .i64 0)))]) (.cond (.t 77) (.seq (.reg [ov 78 6, ov 79 12, ov 2 78, ov 3 79]) .ret) .skip))) (.seq (.reg [ov 80 4, oo 81 (.fa 3 1 (.t 7)), oo 82 (.ld none (.t 81)), oo 83 (.lit 9 1 [(.t 82)]), oo 84 (.app 9 1 16 (.t 80) (.t 83)), ov 4 84]) (.reg [ov 85 5, oo 86 (.fa 4 1 (.t 7)), oo 87 (.ld none (.t 86)), oo 88 (.len (.t 87)), oo 89 (.bin .add (.t 85) (.t 88)), ov 5 89])))))))))) (.reg [oo 90 (.bin .add (.t 15) (.c (.int .i64 1))), ov 15 90])))))))) (.seq (.reg [ov 91 5, oo 92 (.bin .gtr (.t 91) (.c (.int .i64 120))), oo 93 (.call 53 [.ro, .ro] [(.t 92), (.c (.int .i64 30))]), oo 2 (.mv (.c (.int .i64 0))), ov 3 93]) .ret)))))
def F61 : F := ⟨1, 94, [0], [(.tmp 2), (.tmp 3)], B61⟩
set_option maxRecDepth 100000 in
theorem comp61 : compF Try.prog 61 = some F61 := by kernel_rfl
def B62 : C := (.seq (.reg [oo 2 (.mv (.c .nil))]) (.seq (.reg [oo 3 (.mv (.c .nil))]) (.seq (.seq (.reg [ov 8 0, oo 9 (.len (.t 8)), oo 10 (.mv (.c (.int .i64 0)))]) (.blk 0 (.loop (.seq (.clr 1 [0] [8, 9, 10, 3] [(3, (47, 2)), (8, (97, 5))] []) (.seq (.reg [oo 11 (.bin .lss (.t 10) (.t 9))]) (.seq (.cond (.t 11) .skip (.exit 0)) (.seq (.blk 1 (.seq (.reg [oo 12 (.ia 5 (.t 8) (.t 10)), oo 13 (.ld (some 5) (.t 12)), oo 5 (.new [(.int .i64 0), (.int .i64 0), (.int .i64 0), (.str (bs [])), .nil]), ⟨none, (.st 5 (.t 5) (.t 13)), none⟩]) (.seq (.seq (.reg [oo 14 (.fa 0 1 (.t 5)), oo 15 (.ld none (.t 14)), oo 16 (.bin .neq (.t 15) (.c (.int .i64 (-1))))]) (.cond (.t 16) (.exit 1) .skip)) (.seq (.reg [oo 17 (.fa 4 1 (.t 5)), oo 18 (.ld none (.t 17)), oo 19 (.len (.t 18)), oo 20 (.mv (.c (.int .i64 0)))]) (.blk 2 (.loop (.seq (.clr 1 [0] [18, 5, 19, 20, 10, 8, 9, 3] [(3, (47, 2)), (8, (97, 5)), (18, (3, 1))] [(5, (4, (3, 1)))]) (.seq (.reg [oo 21 (.bin .lss (.t 20) (.t 19))]) (.seq (.cond (.t 21) .skip (.exit 2)) (.seq (.blk 3 (.seq (.reg [oo 22 (.ia 1 (.t 18) (.t 20)), oo 23 (.ld none (.t 22)), ov 7 23]) (.reg [ov 24 3, oo 25 (.fa 3 1 (.t 5)), oo 26 (.ld none (.t 25)), ov 27 7, oo 28 (.bld [(.str (bs [])), (.int .i64 0)] [(0, (1, (.t 26))), (1, (1, (.t 27)))]), oo 29 (.lit 47 2 [(.t 28)]), oo 30 (.app 47 2 24 (.t 24) (.t 29)), ov 3 30]))) (.reg [oo 31 (.bin .add (.t 20) (.c (.int .i64 1))), ov 20 31]))))))))))) (.reg [oo 32 (.bin .add (.t 10) (.c (.int .i64 1))), ov 10 32])))))))) (.seq (.reg [ov 33 3, ov 2 33]) .ret))))
def F62 : F := ⟨1, 34, [0], [(.tsl 2 47 2)], B62⟩
set_option maxRecDepth 100000 in
theorem comp62 : compF Try.prog 62 = some F62 := by kernel_rfl
def B63 : C := (.seq (.reg [oo 2 (.box (.t 0)), oo 3 (.box (.t 1)), oo 4 (.mv (.c (.bool false)))]) (.seq (.reg [oo 5 (.fa 0 1 (.t 2)), oo 6 (.ld none (.t 5)), oo 7 (.fa 0 1 (.t 3)), oo 8 (.ld none (.t 7)), oo 9 (.bin .eql (.t 6) (.t 8)), ov 10 9, og 11 (.fa 1 1 (.t 2)) 10 true, og 12 (.ld none (.t 11)) 10 true, og 13 (.fa 1 1 (.t 3)) 10 true, og 14 (.ld none (.t 13)) 10 true, og 15 (.bin .eql (.t 12) (.t 14)) 10 true, oo 16 (.pick (.t 10) (.t 15) (.c (.bool false))), ov 17 16, og 18 (.fa 2 1 (.t 2)) 17 true, og 19 (.ld none (.t 18)) 17 true, og 20 (.fa 2 1 (.t 3)) 17 true, og 21 (.ld none (.t 20)) 17 true, og 22 (.bin .eql (.t 19) (.t 21)) 17 true, oo 23 (.pick (.t 17) (.t 22) (.c (.bool false))), ov 24 23, og 25 (.fa 3 1 (.t 2)) 24 true, og 26 (.ld none (.t 25)) 24 true, og 27 (.fa 3 1 (.t 3)) 24 true, og 28 (.ld none (.t 27)) 24 true, og 29 (.bin .eql (.t 26) (.t 28)) 24 true, oo 30 (.pick (.t 24) (.t 29) (.c (.bool false))), ov 31 30, og 32 (.fa 4 1 (.t 2)) 31 true, og 33 (.ld none (.t 32)) 31 true, og 34 (.fa 4 1 (.t 3)) 31 true, og 35 (.ld none (.t 34)) 31 true, og 36 (.call 94 [.ro, .ro] [(.t 33), (.t 35)]) 31 true, oo 37 (.pick (.t 31) (.t 36) (.c (.bool false))), ov 4 37]) .ret))
def F63 : F := ⟨2, 38, [], [(.tmp 4)], B63⟩
set_option maxRecDepth 100000 in
theorem comp63 : compF Try.prog 63 = some F63 := by kernel_rfl
def B64 : C := (.seq (.reg [oo 2 (.mv (.c .nil))]) (.seq (.reg [ov 3 0, oo 4 (.cpy 3 1 8 (.t 3)), ov 2 4]) .ret))
def F64 : F := ⟨1, 5, [0], [(.tsl 2 3 1)], B64⟩
set_option maxRecDepth 100000 in
theorem comp64 : compF Try.prog 64 = some F64 := by kernel_rfl
def B65 : C := (.seq (.reg [oo 6 (.mv (.c (.int .i64 0)))]) (.seq (.reg [ov 12 0, ov 13 1, oo 14 (.ia 5 (.t 12) (.t 13)), oo 15 (.ld (some 5) (.t 14)), oo 7 (.new [(.int .i64 0), (.int .i64 0), (.int .i64 0), (.str (bs [])), .nil]), ⟨none, (.st 5 (.t 7) (.t 15)), none⟩]) (.seq (.seq (.reg [oo 16 (.fa 4 1 (.t 7)), oo 17 (.ld none (.t 16)), oo 18 (.len (.t 17)), oo 19 (.bin .eql (.t 18) (.c (.int .i64 0)))]) (.cond (.t 19) (.seq (.reg [oo 6 (.mv (.c (.int .i64 1)))]) .ret) .skip)) (.seq (.seq (.reg [oo 8 (.mv (.c (.int .i64 0)))]) (.blk 0 (.loop (.seq (.clr 3 [0] [8, 2, 0, 7, 1] [(0, (97, 5))] [(7, (4, (3, 1)))]) (.seq (.seq (.reg [ov 20 8, oo 21 (.fa 4 1 (.t 7)), oo 22 (.ld none (.t 21)), oo 23 (.len (.t 22)), oo 24 (.bin .lss (.t 20) (.t 23))]) (.cond (.t 24) .skip (.exit 0))) (.seq (.blk 1 (.seq (.reg [oo 27 (.fa 3 1 (.t 7)), oo 28 (.ld none (.t 27)), oo 29 (.fa 4 1 (.t 7)), oo 30 (.ld none (.t 29)), ov 31 8, oo 32 (.ia 1 (.t 30) (.t 31)), oo 33 (.ld none (.t 32)), oo 34 (.bld [(.str (bs [])), (.int .i64 0)] [(0, (1, (.t 28))), (1, (1, (.t 33)))]), oo 35 (.call 56 [.ro] [(.t 34)]), ov 9 35]) (.seq (.reg [ov 36 9, oo 37 (.bin .neq (.t 36) (.c (.int .i64 0)))]) (.cond (.t 37) (.seq (.reg [ov 38 9, ov 6 38]) .ret) .skip)))) (.reg [ov 25 8, oo 26 (.bin .add (.t 25) (.c (.int .i64 1))), ov 8 26]))))))) (.seq (.seq (.reg [oo 39 (.fa 3 1 (.t 7)), oo 40 (.ld none (.t 39)), oo 41 (.lens (.t 40)), ov 42 0, ov 43 2, oo 44 (.ia 5 (.t 42) (.t 43)), oo 45 (.fa 3 1 (.t 44)), oo 46 (.ld none (.t 45)), oo 47 (.lens (.t 46)), oo 48 (.bin .neq (.t 41) (.t 47))]) (.cond (.t 48) (.seq (.reg [oo 6 (.mv (.c (.int .i64 18)))]) .ret) .skip)) (.seq (.seq (.reg [oo 10 (.mv (.c (.int .i64 1)))]) (.blk 2 (.loop (.seq (.clr 3 [0] [10, 0, 7, 1] [(0, (97, 5))] [(7, (4, (3, 1)))]) (.seq (.seq (.reg [ov 49 10, oo 50 (.fa 4 1 (.t 7)), oo 51 (.ld none (.t 50)), oo 52 (.len (.t 51)), oo 53 (.bin .lss (.t 49) (.t 52))]) (.cond (.t 53) .skip (.exit 2))) (.seq (.blk 3 (.seq (.reg [oo 56 (.fa 4 1 (.t 7)), oo 57 (.ld none (.t 56)), ov 58 10, oo 59 (.ia 1 (.t 57) (.t 58)), oo 60 (.ld none (.t 59)), oo 61 (.fa 4 1 (.t 7)), oo 62 (.ld none (.t 61)), ov 63 10, oo 64 (.bin .sub (.t 63) (.c (.int .i64 1))), oo 65 (.ia 1 (.t 62) (.t 64)), oo 66 (.ld none (.t 65)), oo 67 (.bin .leq (.t 60) (.t 66))]) (.cond (.t 67) (.seq (.reg [oo 6 (.mv (.c (.int .i64 14)))]) .ret) .skip))) (.reg [ov 54 10, oo 55 (.bin .add (.t 54) (.c (.int .i64 1))), ov 10 55]))))))) (.seq (.seq (.reg [oo 11 (.mv (.c (.int .i64 0)))]) (.blk 4 (.loop (.seq (.clr 3 [0] [0, 7, 1, 11] [(0, (97, 5))] [(7, (4, (3, 1)))]) (.seq (.seq (.reg [ov 68 11, ov 69 1, oo 70 (.bin .lss (.t 68) (.t 69))]) (.cond (.t 70) .skip (.exit 4))) (.seq (.blk 5 (.seq (.reg [ov 73 0, ov 74 11, oo 75 (.ia 5 (.t 73) (.t 74)), oo 76 (.fa 0 1 (.t 75)), oo 77 (.ld none (.t 76)), oo 78 (.bin .eql (.t 77) (.c (.int .i64 (-1)))), ov 79 78, og 80 (.mv (.t 0)) 79 true, og 81 (.mv (.t 11)) 79 true, og 82 (.ia 5 (.t 80) (.t 81)) 79 true, og 83 (.fa 3 1 (.t 82)) 79 true, og 84 (.ld none (.t 83)) 79 true, og 85 (.fa 3 1 (.t 7)) 79 true, og 86 (.ld none (.t 85)) 79 true, og 87 (.bin .eql (.t 84) (.t 86)) 79 true, oo 88 (.pick (.t 79) (.t 87) (.c (.bool false)))]) (.cond (.t 88) (.seq (.reg [oo 6 (.mv (.c (.int .i64 13)))]) .ret) .skip))) (.reg [ov 71 11, oo 72 (.bin .add (.t 71) (.c (.int .i64 1))), ov 11 72]))))))) (.seq (.reg [oo 6 (.mv (.c (.int .i64 0)))]) .ret))))))))
def F65 : F := ⟨3, 89, [0], [(.tmp 6)], B65⟩
set_option maxRecDepth 100000 in
theorem comp65 : compF Try.prog 65 = some F65 := by kernel_rfl
def B66 : C := (.seq (.reg [oo 2 (.mv (.c .nil))]) (.seq (.reg [oo 3 (.mv (.c .nil))]) (.seq (.seq (.reg [oo 4 (.mv (.c (.int .i64 0)))]) (.blk 0 (.loop (.seq (.clr 1 [0] [0, 4, 3] [(0, (97, 5)), (3, (47, 2))] []) (.seq (.seq (.reg [ov 6 4, ov 7 0, oo 8 (.len (.t 7)), oo 9 (.bin .lss (.t 6) (.t 8))]) (.cond (.t 9) .skip (.exit 0))) (.seq (.blk 1 (.seq (.reg [oo 5 (.mv (.c (.int .i64 0)))]) (.blk 2 (.loop (.seq (.clr 1 [0] [5, 4, 0, 3] [(0, (97, 5)), (3, (47, 2))] []) (.seq (.seq (.reg [ov 12 0, ov 13 4, oo 14 (.ia 5 (.t 12) (.t 13)), oo 15 (.fa 0 1 (.t 14)), oo 16 (.ld none (.t 15)), oo 17 (.bin .eql (.t 16) (.c (.int .i64 (-1)))), ov 18 17, og 19 (.mv (.t 5)) 18 true, og 20 (.mv (.t 0)) 18 true, og 21 (.mv (.t 4)) 18 true, og 22 (.ia 5 (.t 20) (.t 21)) 18 true, og 23 (.fa 4 1 (.t 22)) 18 true, og 24 (.ld none (.t 23)) 18 true, og 25 (.len (.t 24)) 18 true, og 26 (.bin .lss (.t 19) (.t 25)) 18 true, oo 27 (.pick (.t 18) (.t 26) (.c (.bool false)))]) (.cond (.t 27) .skip (.exit 2))) (.seq (.blk 3 (.reg [ov 30 3, ov 31 0, ov 32 4, oo 33 (.ia 5 (.t 31) (.t 32)), oo 34 (.fa 3 1 (.t 33)), oo 35 (.ld none (.t 34)), ov 36 0, ov 37 4, oo 38 (.ia 5 (.t 36) (.t 37)), oo 39 (.fa 4 1 (.t 38)), oo 40 (.ld none (.t 39)), ov 41 5, oo 42 (.ia 1 (.t 40) (.t 41)), oo 43 (.ld none (.t 42)), oo 44 (.bld [(.str (bs [])), (.int .i64 0)] [(0, (1, (.t 35))), (1, (1, (.t 43)))]), oo 45 (.lit 47 2 [(.t 44)]), oo 46 (.app 47 2 24 (.t 30) (.t 45)), ov 3 46])) (.reg [ov 28 5, oo 29 (.bin .add (.t 28) (.c (.int .i64 1))), ov 5 29])))))))) (.reg [ov 10 4, oo 11 (.bin .add (.t 10) (.c (.int .i64 1))), ov 4 11]))))))) (.seq (.reg [ov 47 3, ov 2 47]) .ret))))
def F66 : F := ⟨1, 48, [0], [(.tsl 2 47 2)], B66⟩
set_option maxRecDepth 100000 in
theorem comp66 : compF Try.prog 66 = some F66 := by kernel_rfl
def B67 : C := (.seq (.reg [oo 2 (.mv (.c (.int .i64 0)))]) (.seq (.reg [ov 6 0, oo 7 (.call 20 [.ro] [(.t 6)]), ov 5 7, oo 8 (.ext (.t 5) 0), oo 9 (.ext (.t 5) 1), ov 3 8, ov 4 9]) (.seq (.reg [ov 10 4, ov 2 10]) .ret)))
def F67 : F := ⟨1, 11, [0], [(.tmp 2)], B67⟩
set_option maxRecDepth 100000 in
theorem comp67 : compF Try.prog 67 = some F67 := by kernel_rfl
def B68 : C := (.seq (.reg [oo 6 (.mv (.c (.int .i64 0)))]) (.seq (.reg [oo 7 (.mv (.c (.int .i64 0)))]) (.seq (.seq (.reg [ov 10 0, oo 11 (.len (.t 10)), oo 12 (.mv (.c (.int .i64 0)))]) (.blk 0 (.loop (.seq (.clr 3 [0] [10, 2, 1, 11, 12, 7] [(10, (47, 2))] []) (.seq (.reg [oo 13 (.bin .lss (.t 12) (.t 11))]) (.seq (.cond (.t 13) .skip (.exit 0)) (.seq (.blk 1 (.seq (.reg [oo 14 (.ia 2 (.t 10) (.t 12)), oo 15 (.ld (some 2) (.t 14)), oo 9 (.new [(.str (bs [])), (.int .i64 0)]), ⟨none, (.st 2 (.t 9) (.t 15)), none⟩]) (.seq (.reg [oo 16 (.fa 0 1 (.t 9)), oo 17 (.ld none (.t 16)), ov 18 1, oo 19 (.bin .lss (.t 17) (.t 18)), ov 20 19, og 21 (.mv (.t 2)) 20 false, og 22 (.mv (.t 21)) 20 false, og 23 (.fa 0 1 (.t 9)) 22 true, og 24 (.ld none (.t 23)) 22 true, og 25 (.mv (.t 1)) 22 true, og 26 (.call 95 [.ro, .ro] [(.t 24), (.t 25)]) 22 true, og 27 (.pick (.t 22) (.t 26) (.c (.bool false))) 20 false, oo 28 (.pick (.t 20) (.c (.bool true)) (.t 27))]) (.cond (.t 28) (.reg [ov 29 7, oo 30 (.bin .add (.t 29) (.c (.int .i64 1))), ov 7 30]) .skip)))) (.reg [oo 31 (.bin .add (.t 12) (.c (.int .i64 1))), ov 12 31])))))))) (.seq (.reg [ov 32 7, ov 6 32]) .ret))))
def F68 : F := ⟨3, 33, [0], [(.tmp 6)], B68⟩
set_option maxRecDepth 100000 in
theorem comp68 : compF Try.prog 68 = some F68 := by kernel_rfl
def B69 : C := (.seq (.reg [oo 4 (.mv (.c (.bool false)))]) (.seq (.reg [ov 5 0, oo 6 (.lens (.t 5)), ov 7 1, oo 8 (.lens (.t 7)), oo 9 (.bin .geq (.t 6) (.t 8)), ov 10 9, og 11 (.mv (.t 0)) 10 true, og 12 (.mv (.t 1)) 10 true, og 13 (.lens (.t 12)) 10 true, og 14 (.subs (.t 11) none (some (.t 13))) 10 true, og 15 (.mv (.t 1)) 10 true, og 16 (.bin .eql (.t 14) (.t 15)) 10 true, oo 17 (.pick (.t 10) (.t 16) (.c (.bool false))), ov 4 17]) .ret))
def F69 : F := ⟨2, 18, [], [(.tmp 4)], B69⟩
set_option maxRecDepth 100000 in
theorem comp69 : compF Try.prog 69 = some F69 := by kernel_rfl
def B73 : C := (.seq (.reg [oo 4 (.mv (.c (.int .i64 0)))]) (.seq (.reg [ov 5 0, ov 6 1, oo 7 (.bin .quo (.t 6) (.c (.int .i64 8))), oo 8 (.ix (.t 5) (.t 7)), oo 9 (.cvi .i64 (.t 8)), ov 10 1, oo 11 (.bin .rem (.t 10) (.c (.int .i64 8))), oo 12 (.bin .sub (.c (.int .i64 7)) (.t 11)), oo 13 (.bin .shr (.t 9) (.t 12)), oo 14 (.bin .and (.t 13) (.c (.int .i64 1))), ov 4 14]) .ret))
def F73 : F := ⟨2, 15, [], [(.tmp 4)], B73⟩
set_option maxRecDepth 100000 in
theorem comp73 : compF Try.prog 73 = some F73 := by kernel_rfl
def B76 : C := (.seq (.reg [oo 3 (.box (.t 1)), oo 4 (.mv (.c (.int .i64 0)))]) (.seq (.seq (.reg [ov 6 0, oo 7 (.len (.t 6)), oo 8 (.mv (.c (.int .i64 0)))]) (.blk 0 (.loop (.seq (.clr 2 [0] [3, 0, 7, 8] [(0, (47, 2))] []) (.seq (.reg [oo 9 (.bin .lss (.t 8) (.t 7))]) (.seq (.cond (.t 9) .skip (.exit 0)) (.seq (.blk 1 (.seq (.reg [ov 10 8, ov 5 10]) (.seq (.reg [oo 11 (.ld (some 2) (.t 3)), ov 12 0, ov 13 5, oo 14 (.ia 2 (.t 12) (.t 13)), oo 15 (.ld (some 2) (.t 14)), oo 16 (.eqs false [.str, .int] (.t 11) (.t 15))]) (.cond (.t 16) (.seq (.reg [ov 17 5, ov 4 17]) .ret) .skip)))) (.reg [oo 18 (.bin .add (.t 8) (.c (.int .i64 1))), ov 8 18])))))))) (.seq (.reg [oo 4 (.mv (.c (.int .i64 (-1))))]) .ret)))
def F76 : F := ⟨2, 19, [0], [(.tmp 4)], B76⟩
set_option maxRecDepth 100000 in
theorem comp76 : compF Try.prog 76 = some F76 := by kernel_rfl
def B87 : C := (.seq (.reg [oo 4 (.mv (.c .nil))]) (.seq (.reg [ov 13 1, oo 14 (.ia 2 (.t 13) (.c (.int .i64 0))), oo 15 (.fa 0 1 (.t 14)), oo 16 (.ld none (.t 15)), ov 17 1, ov 18 1, oo 19 (.len (.t 18)), oo 20 (.bin .sub (.t 19) (.c (.int .i64 1))), oo 21 (.ia 2 (.t 17) (.t 20)), oo 22 (.fa 0 1 (.t 21)), oo 23 (.ld none (.t 22)), ov 5 16, ov 6 23]) (.seq (.seq (.reg [ov 24 5, ov 25 6, oo 26 (.bin .eql (.t 24) (.t 25))]) (.cond (.t 26) (.seq (.reg [ov 27 5, oo 28 (.bld [(.int .i64 0), (.int .i64 0), (.int .i64 0), (.str (bs [])), .nil] [(0, (1, (.c (.int .i64 (-1))))), (3, (1, (.t 27)))]), oo 7 (.new [(.int .i64 0), (.int .i64 0), (.int .i64 0), (.str (bs [])), .nil]), ⟨none, (.st 5 (.t 7) (.t 28)), none⟩]) (.seq (.seq (.reg [ov 29 1, oo 30 (.len (.t 29)), oo 31 (.mv (.c (.int .i64 0)))]) (.blk 0 (.loop (.seq (.clr 2 [0, 1] [29, 30, 31, 0, 7] [(0, (97, 5)), (29, (47, 2)), (0, (97, 5))] [(7, (4, (3, 1)))]) (.seq (.reg [oo 32 (.bin .lss (.t 31) (.t 30))]) (.seq (.cond (.t 32) .skip (.exit 0)) (.seq (.blk 1 (.seq (.reg [oo 33 (.ia 2 (.t 29) (.t 31)), oo 34 (.ld (some 2) (.t 33)), oo 9 (.new [(.str (bs [])), (.int .i64 0)]), ⟨none, (.st 2 (.t 9) (.t 34)), none⟩]) (.reg [oo 35 (.fa 4 1 (.t 7)), oo 36 (.ld none (.t 35)), oo 37 (.fa 1 1 (.t 9)), oo 38 (.ld none (.t 37)), oo 39 (.lit 3 1 [(.t 38)]), oo 40 (.app 3 1 8 (.t 36) (.t 39)), oo 41 (.fa 4 1 (.t 7)), ⟨none, (.st 1 (.t 41) (.t 40)), none⟩]))) (.reg [oo 42 (.bin .add (.t 31) (.c (.int .i64 1))), ov 31 42])))))))) (.seq (.reg [ov 43 0, oo 44 (.ld (some 5) (.t 7)), oo 45 (.lit 97 5 [(.t 44)]), oo 46 (.app 97 5 64 (.t 43) (.t 45)), ov 4 46]) .ret))) .skip)) (.seq (.reg [ov 47 0, oo 48 (.len (.t 47)), ov 49 5, ov 50 6, oo 51 (.call 114 [.ro, .ro] [(.t 49), (.t 50)]), oo 11 (.new [(.int .i64 0)]), ov 10 48, ⟨none, (.st 1 (.t 11) (.t 51)), none⟩]) (.seq (.reg [ov 52 1, oo 53 (.clof 116 [(.t 11)]), oo 54 (.call 115 [.ro, .ro] [(.t 52), (.t 53)]), ov 12 54]) (.seq (.drw [ov 55 0, oo 56 (.ld none (.t 11)), ov 57 10, oo 58 (.bin .add (.t 57) (.c (.int .i64 1))), oo 59 (.bld [(.int .i64 0), (.int .i64 0), (.int .i64 0), (.str (bs [])), .nil] [(0, (1, (.t 56))), (1, (1, (.t 58)))]), oo 60 (.lit 97 5 [(.t 59)]), oo 61 (.app 97 5 64 (.t 55) (.t 60)), ov 62 1, ov 63 12, oo 64 (.sub 2 (.t 62) none (some (.t 63))), oo 65 (.call 87 [(.io 97 5), .ro] [(.t 61), (.t 64)]), ov 0 65] [(1, 9), (5, 9), (6, 9)]) (.seq (.reg [ov 66 0, ov 67 10, ov 68 0, oo 69 (.len (.t 68)), oo 70 (.ia 5 (.t 66) (.t 67)), oo 71 (.fa 2 1 (.t 70)), ⟨none, (.st 1 (.t 71) (.t 69)), none⟩]) (.seq (.reg [ov 72 0, ov 73 1, ov 74 12, oo 75 (.sub 2 (.t 73) (some (.t 74)) none), oo 76 (.call 87 [(.io 97 5), .ro] [(.t 72), (.t 75)]), ov 4 76]) .ret))))))))
def F87 : F := ⟨2, 77, [0, 1], [(.tsl 4 97 5)], B87⟩
set_option maxRecDepth 100000 in
theorem comp87 : compF Try.prog 87 = some F87 := by kernel_rfl
def B88 : C := (.seq (.reg [oo 4 (.mv (.c .nil))]) (.seq (.reg [ov 6 0, oo 7 (.call 118 [.ro] [(.t 6)]), ov 5 7]) (.seq (.reg [ov 8 5, ov 9 1, oo 10 (.call 119 [(.io 47 2), .ro] [(.t 8), (.t 9)])]) (.seq (.reg [ov 11 5, ov 4 11]) .ret))))
def F88 : F := ⟨2, 12, [], [(.tsl 4 47 2)], B88⟩
set_option maxRecDepth 100000 in
theorem comp88 : compF Try.prog 88 = some F88 := by kernel_rfl
def B89 : C := (.seq (.reg [oo 1 (.box (.t 0)), oo 2 (.mv (.c (.raw .nilFunc)))]) (.seq (.reg [oo 3 (.clof 120 [(.t 1)]), ov 2 3]) .ret))
def F89 : F := ⟨1, 4, [0], [(.tmp 2)], B89⟩
set_option maxRecDepth 100000 in
theorem comp89 : compF Try.prog 89 = some F89 := by kernel_rfl
def B90 : C := (.seq (.reg [oo 2 (.box (.t 0)), oo 3 (.box (.t 1)), oo 4 (.mv (.c (.int .i64 0)))]) (.seq (.drw [oo 5 (.fa 0 1 (.t 2)), oo 6 (.ld none (.t 5)), oo 7 (.fa 0 1 (.t 3)), oo 8 (.ld none (.t 7)), oo 9 (.call 122 [.ro, .ro] [(.t 6), (.t 8)]), oo 10 (.fa 1 1 (.t 2)), oo 11 (.ld none (.t 10)), oo 12 (.fa 1 1 (.t 3)), oo 13 (.ld none (.t 12)), oo 14 (.call 123 [.ro, .ro] [(.t 11), (.t 13)]), oo 15 (.lit 3 1 [(.t 9), (.t 14)]), oo 16 (.call 121 [.ro] [(.t 15)]), ov 4 16] [(4, 6), (4, 8)]) .ret))
def F90 : F := ⟨2, 17, [], [(.tmp 4)], B90⟩
set_option maxRecDepth 100000 in
theorem comp90 : compF Try.prog 90 = some F90 := by kernel_rfl
def B91 : C := (.seq (.reg [oo 2 (.box (.t 0)), oo 3 (.box (.t 1)), oo 4 (.mv (.c (.bool false)))]) (.seq (.reg [oo 5 (.fa 0 1 (.t 2)), oo 6 (.ld none (.t 5)), oo 7 (.fa 0 1 (.t 3)), oo 8 (.ld none (.t 7)), oo 9 (.bin .lss (.t 6) (.t 8)), ov 10 9, og 11 (.fa 0 1 (.t 2)) 10 false, og 12 (.ld none (.t 11)) 10 false, og 13 (.fa 0 1 (.t 3)) 10 false, og 14 (.ld none (.t 13)) 10 false, og 15 (.bin .eql (.t 12) (.t 14)) 10 false, og 16 (.mv (.t 15)) 10 false, og 17 (.fa 1 1 (.t 2)) 16 true, og 18 (.ld none (.t 17)) 16 true, og 19 (.fa 1 1 (.t 3)) 16 true, og 20 (.ld none (.t 19)) 16 true, og 21 (.bin .lss (.t 18) (.t 20)) 16 true, og 22 (.pick (.t 16) (.t 21) (.c (.bool false))) 10 false, oo 23 (.pick (.t 10) (.c (.bool true)) (.t 22)), ov 4 23]) .ret))
def F91 : F := ⟨2, 24, [], [(.tmp 4)], B91⟩
set_option maxRecDepth 100000 in
theorem comp91 : compF Try.prog 91 = some F91 := by kernel_rfl
def B92 : C := (.seq (.reg [oo 1 (.box (.t 0)), oo 2 (.mv (.c (.int .i64 0)))]) (.seq (.seq (.reg [oo 6 (.fa 4 1 (.t 1)), oo 7 (.ld none (.t 6)), oo 8 (.len (.t 7)), oo 9 (.bin .eql (.t 8) (.c (.int .i64 0)))]) (.cond (.t 9) (.seq (.reg [oo 2 (.mv (.c (.int .i64 1)))]) .ret) .skip)) (.seq (.seq (.reg [oo 10 (.fa 4 1 (.t 1)), oo 11 (.ld none (.t 10)), oo 12 (.len (.t 11)), oo 13 (.mv (.c (.int .i64 0)))]) (.blk 0 (.loop (.seq (.clr 1 [] [11, 1, 12, 13] [(11, (3, 1))] [(1, (4, (3, 1)))]) (.seq (.reg [oo 14 (.bin .lss (.t 13) (.t 12))]) (.seq (.cond (.t 14) .skip (.exit 0)) (.seq (.blk 1 (.seq (.reg [oo 15 (.ia 1 (.t 11) (.t 13)), oo 16 (.ld none (.t 15)), ov 4 16]) (.seq (.reg [oo 17 (.fa 3 1 (.t 1)), oo 18 (.ld none (.t 17)), ov 19 4, oo 20 (.bld [(.str (bs [])), (.int .i64 0)] [(0, (1, (.t 18))), (1, (1, (.t 19)))]), oo 21 (.call 52 [.ro] [(.t 20)]), ov 5 21]) (.seq (.reg [ov 22 5, oo 23 (.bin .neq (.t 22) (.c (.int .i64 0)))]) (.cond (.t 23) (.seq (.reg [ov 24 5, ov 2 24]) .ret) .skip))))) (.reg [oo 25 (.bin .add (.t 13) (.c (.int .i64 1))), ov 13 25])))))))) (.seq (.reg [oo 2 (.mv (.c (.int .i64 0)))]) .ret))))
def F92 : F := ⟨1, 26, [], [(.tmp 2)], B92⟩
set_option maxRecDepth 100000 in
theorem comp92 : compF Try.prog 92 = some F92 := by kernel_rfl
def B93 : C := (.seq (.reg [oo 4 (.mv (.c (.bool false)))]) (.seq (.reg [ov 5 0, ov 6 1, oo 7 (.call 124 [.ro, .ro] [(.t 5), (.t 6)]), oo 8 (.bin .geq (.t 7) (.c (.int .i64 0))), ov 4 8]) .ret))
def F93 : F := ⟨2, 9, [0], [(.tmp 4)], B93⟩
set_option maxRecDepth 100000 in
theorem comp93 : compF Try.prog 93 = some F93 := by kernel_rfl
def B94 : C := (.seq (.reg [oo 4 (.mv (.c (.bool false)))]) (.seq (.seq (.reg [ov 6 0, oo 7 (.len (.t 6)), ov 8 1, oo 9 (.len (.t 8)), oo 10 (.bin .neq (.t 7) (.t 9))]) (.cond (.t 10) (.seq (.reg [oo 4 (.mv (.c (.bool false)))]) .ret) .skip)) (.seq (.seq (.reg [ov 11 0, oo 12 (.len (.t 11)), oo 13 (.mv (.c (.int .i64 0)))]) (.blk 0 (.loop (.seq (.clr 2 [0, 1] [0, 1, 12, 13] [(0, (3, 1)), (1, (3, 1))] []) (.seq (.reg [oo 14 (.bin .lss (.t 13) (.t 12))]) (.seq (.cond (.t 14) .skip (.exit 0)) (.seq (.blk 1 (.seq (.reg [ov 15 13, ov 5 15]) (.seq (.reg [ov 16 0, ov 17 5, oo 18 (.ia 1 (.t 16) (.t 17)), oo 19 (.ld none (.t 18)), ov 20 1, ov 21 5, oo 22 (.ia 1 (.t 20) (.t 21)), oo 23 (.ld none (.t 22)), oo 24 (.bin .neq (.t 19) (.t 23))]) (.cond (.t 24) (.seq (.reg [oo 4 (.mv (.c (.bool false)))]) .ret) .skip)))) (.reg [oo 25 (.bin .add (.t 13) (.c (.int .i64 1))), ov 13 25])))))))) (.seq (.reg [oo 4 (.mv (.c (.bool true)))]) .ret))))
def F94 : F := ⟨2, 26, [0, 1], [(.tmp 4)], B94⟩
set_option maxRecDepth 100000 in
theorem comp94 : compF Try.prog 94 = some F94 := by kernel_rfl
def B95 : C := (.seq (.reg [oo 4 (.mv (.c (.bool false)))]) (.seq (.reg [ov 5 0, ov 6 1, oo 7 (.call 125 [.ro, .ro] [(.t 5), (.t 6)]), ov 4 7]) .ret))
def F95 : F := ⟨2, 8, [], [(.tmp 4)], B95⟩
set_option maxRecDepth 100000 in
theorem comp95 : compF Try.prog 95 = some F95 := by kernel_rfl
def B114 : C := (.seq (.reg [oo 4 (.mv (.c (.int .i64 0)))]) (.seq (.reg [oo 5 (.mv (.c (.int .i64 0)))]) (.seq (.blk 0 (.loop (.seq (.clr 2 [] [1, 0, 5] [] []) (.seq (.seq (.reg [ov 6 0, ov 7 5, oo 8 (.call 117 [.ro, .ro] [(.t 6), (.t 7)]), ov 9 1, ov 10 5, oo 11 (.call 117 [.ro, .ro] [(.t 9), (.t 10)]), oo 12 (.bin .eql (.t 8) (.t 11))]) (.cond (.t 12) .skip (.exit 0))) (.blk 1 (.reg [ov 13 5, oo 14 (.bin .add (.t 13) (.c (.int .i64 1))), ov 5 14])))))) (.seq (.reg [ov 15 5, ov 4 15]) .ret))))
def F114 : F := ⟨2, 16, [], [(.tmp 4)], B114⟩
set_option maxRecDepth 100000 in
theorem comp114 : compF Try.prog 114 = some F114 := by kernel_rfl
def B115 : C := (.seq (.reg [oo 4 (.mv (.c (.int .i64 0)))]) (.seq (.seq (.reg [ov 6 0, oo 7 (.len (.t 6)), oo 8 (.mv (.c (.int .i64 0)))]) (.blk 0 (.loop (.seq (.clr 2 [0] [1, 0, 7, 8] [(0, (47, 2))] []) (.seq (.reg [oo 9 (.bin .lss (.t 8) (.t 7))]) (.seq (.cond (.t 9) .skip (.exit 0)) (.seq (.blk 1 (.seq (.reg [ov 10 8, ov 5 10]) (.seq (.reg [ov 11 1, ov 12 0, ov 13 5, oo 14 (.ia 2 (.t 12) (.t 13)), oo 15 (.ld (some 2) (.t 14)), oo 16 (.calld (.t 11) [(.t 15)])]) (.cond (.t 16) (.seq (.reg [ov 17 5, ov 4 17]) .ret) .skip)))) (.reg [oo 18 (.bin .add (.t 8) (.c (.int .i64 1))), ov 8 18])))))))) (.seq (.reg [oo 4 (.mv (.c (.int .i64 (-1))))]) .ret)))
def F115 : F := ⟨2, 19, [0], [(.tmp 4)], B115⟩
set_option maxRecDepth 100000 in
theorem comp115 : compF Try.prog 115 = some F115 := by kernel_rfl
def B116 : C := (.seq (.reg [oo 2 (.box (.t 0)), oo 3 (.mv (.c (.bool false)))]) (.seq (.reg [oo 4 (.fa 0 1 (.t 2)), oo 5 (.ld none (.t 4)), oo 6 (.ld none (.t 1)), oo 7 (.call 117 [.ro, .ro] [(.t 5), (.t 6)]), oo 8 (.bin .eql (.t 7) (.c (.int .i64 1))), ov 3 8]) .ret))
def F116 : F := ⟨2, 9, [], [(.tmp 3)], B116⟩
set_option maxRecDepth 100000 in
theorem comp116 : compF Try.prog 116 = some F116 := by kernel_rfl
def B117 : C := (.seq (.reg [oo 4 (.mv (.c (.int .i64 0)))]) (.seq (.reg [ov 5 0, ov 6 1, oo 7 (.bin .quo (.t 6) (.c (.int .i64 8))), oo 8 (.ix (.t 5) (.t 7)), ov 9 1, oo 10 (.bin .rem (.t 9) (.c (.int .i64 8))), oo 11 (.bin .sub (.c (.int .i64 7)) (.t 10)), oo 12 (.bin .shr (.t 8) (.t 11)), oo 13 (.cvi .i64 (.t 12)), oo 14 (.bin .and (.t 13) (.c (.int .i64 1))), ov 4 14]) .ret))
def F117 : F := ⟨2, 15, [], [(.tmp 4)], B117⟩
set_option maxRecDepth 100000 in
theorem comp117 : compF Try.prog 117 = some F117 := by kernel_rfl
def B121 : C := (.seq (.reg [oo 2 (.mv (.c (.int .i64 0)))]) (.seq (.reg [oo 3 (.mv (.c (.int .i64 0)))]) (.seq (.seq (.reg [ov 6 0, oo 7 (.len (.t 6)), oo 8 (.mv (.c (.int .i64 0)))]) (.blk 0 (.loop (.seq (.clr 1 [0] [6, 7, 8, 3] [(6, (3, 1))] []) (.seq (.reg [oo 9 (.bin .lss (.t 8) (.t 7))]) (.seq (.cond (.t 9) .skip (.exit 0)) (.seq (.blk 1 (.seq (.reg [oo 10 (.ia 1 (.t 6) (.t 8)), oo 11 (.ld none (.t 10)), ov 5 11]) (.seq (.reg [ov 12 5, ov 13 3, oo 14 (.bin .neq (.t 12) (.t 13))]) (.cond (.t 14) (.seq (.reg [ov 15 5, ov 2 15]) .ret) .skip)))) (.reg [oo 16 (.bin .add (.t 8) (.c (.int .i64 1))), ov 8 16])))))))) (.seq (.reg [ov 17 3, ov 2 17]) .ret))))
def F121 : F := ⟨1, 18, [0], [(.tmp 2)], B121⟩
set_option maxRecDepth 100000 in
theorem comp121 : compF Try.prog 121 = some F121 := by kernel_rfl
def B122 : C := (.seq (.reg [oo 4 (.mv (.c (.int .i64 0)))]) (.seq (.reg [ov 5 0, ov 6 1, oo 7 (.call 141 [.ro, .ro] [(.t 5), (.t 6)]), ov 4 7]) .ret))
def F122 : F := ⟨2, 8, [], [(.tmp 4)], B122⟩
set_option maxRecDepth 100000 in
theorem comp122 : compF Try.prog 122 = some F122 := by kernel_rfl
def B123 : C := (.seq (.reg [oo 4 (.mv (.c (.int .i64 0)))]) (.seq (.reg [ov 7 0, oo 8 (.call 142 [.ro] [(.t 7)]), ov 5 8]) (.seq (.reg [ov 9 1, oo 10 (.call 142 [.ro] [(.t 9)]), ov 6 10]) (.seq (.seq (.reg [ov 11 5]) (.cond (.t 11) (.seq (.seq (.reg [ov 12 6]) (.cond (.t 12) (.seq (.reg [oo 4 (.mv (.c (.int .i64 0)))]) .ret) .skip)) (.seq (.reg [oo 4 (.mv (.c (.int .i64 (-1))))]) .ret)) .skip)) (.seq (.seq (.reg [ov 13 6]) (.cond (.t 13) (.seq (.reg [oo 4 (.mv (.c (.int .i64 1)))]) .ret) .skip)) (.seq (.seq (.reg [ov 14 0, ov 15 1, oo 16 (.bin .lss (.t 14) (.t 15))]) (.cond (.t 16) (.seq (.reg [oo 4 (.mv (.c (.int .i64 (-1))))]) .ret) .skip)) (.seq (.seq (.reg [ov 17 0, ov 18 1, oo 19 (.bin .gtr (.t 17) (.t 18))]) (.cond (.t 19) (.seq (.reg [oo 4 (.mv (.c (.int .i64 1)))]) .ret) .skip)) (.seq (.reg [oo 4 (.mv (.c (.int .i64 0)))]) .ret))))))))
def F123 : F := ⟨2, 20, [], [(.tmp 4)], B123⟩
set_option maxRecDepth 100000 in
theorem comp123 : compF Try.prog 123 = some F123 := by kernel_rfl
def B124 : C := (.seq (.reg [oo 4 (.mv (.c (.int .i64 0)))]) (.seq (.seq (.reg [ov 6 0, oo 7 (.len (.t 6)), oo 8 (.mv (.c (.int .i64 0)))]) (.blk 0 (.loop (.seq (.clr 2 [0] [1, 0, 7, 8] [(0, (9, 1))] []) (.seq (.reg [oo 9 (.bin .lss (.t 8) (.t 7))]) (.seq (.cond (.t 9) .skip (.exit 0)) (.seq (.blk 1 (.seq (.reg [ov 10 8, ov 5 10]) (.seq (.reg [ov 11 1, ov 12 0, ov 13 5, oo 14 (.ia 1 (.t 12) (.t 13)), oo 15 (.ld none (.t 14)), oo 16 (.bin .eql (.t 11) (.t 15))]) (.cond (.t 16) (.seq (.reg [ov 17 5, ov 4 17]) .ret) .skip)))) (.reg [oo 18 (.bin .add (.t 8) (.c (.int .i64 1))), ov 8 18])))))))) (.seq (.reg [oo 4 (.mv (.c (.int .i64 (-1))))]) .ret)))
def F124 : F := ⟨2, 19, [0], [(.tmp 4)], B124⟩
set_option maxRecDepth 100000 in
theorem comp124 : compF Try.prog 124 = some F124 := by kernel_rfl
def B125 : C := (.seq (.reg [oo 4 (.mv (.c (.bool false)))]) (.seq (.reg [ov 5 0, oo 6 (.lens (.t 5)), ov 7 1, oo 8 (.lens (.t 7)), oo 9 (.bin .geq (.t 6) (.t 8)), ov 10 9, og 11 (.mv (.t 0)) 10 true, og 12 (.mv (.t 1)) 10 true, og 13 (.lens (.t 12)) 10 true, og 14 (.subs (.t 11) none (some (.t 13))) 10 true, og 15 (.mv (.t 1)) 10 true, og 16 (.bin .eql (.t 14) (.t 15)) 10 true, oo 17 (.pick (.t 10) (.t 16) (.c (.bool false))), ov 4 17]) .ret))
def F125 : F := ⟨2, 18, [], [(.tmp 4)], B125⟩
set_option maxRecDepth 100000 in
theorem comp125 : compF Try.prog 125 = some F125 := by kernel_rfl
def B142 : C := (.seq (.reg [oo 2 (.mv (.c (.bool false)))]) (.seq (.reg [ov 3 0, ov 4 0, oo 5 (.bin .neq (.t 3) (.t 4)), ov 2 5]) .ret))
def F142 : F := ⟨1, 6, [], [(.tmp 2)], B142⟩
set_option maxRecDepth 100000 in
theorem comp142 : compF Try.prog 142 = some F142 := by kernel_rfl
def tab : List (Nat × F) := [(3, F3), (4, F4), (5, F5), (6, F6), (7, F7), (8, F8), (12, F12), (13, F13), (14, F14), (15, F15), (16, F16), (17, F17), (18, F18), (19, F19), (20, F20), (21, F21), (22, F22), (23, F23), (25, F25), (26, F26), (27, F27), (28, F28), (29, F29), (30, F30), (31, F31), (32, F32), (34, F34), (37, F37), (50, F50), (51, F51), (52, F52), (53, F53), (54, F54), (55, F55), (56, F56), (57, F57), (58, F58), (59, F59), (60, F60), (61, F61), (62, F62), (63, F63), (64, F64), (65, F65), (66, F66), (67, F67), (68, F68), (69, F69), (73, F73), (76, F76), (87, F87), (88, F88), (89, F89), (90, F90), (91, F91), (92, F92), (93, F93), (94, F94), (95, F95), (114, F114), (115, F115), (116, F116), (117, F117), (121, F121), (122, F122), (123, F123), (124, F124), (125, F125), (142, F142)]
def T (f : Nat) : Option F := (tab.find? fun p => p.1 == f).map (·.2)
theorem tab_ok : ∀ p ∈ tab, compF Try.prog p.1 = some p.2 := by
  exact List.forall_mem_cons.2 ⟨comp3, List.forall_mem_cons.2 ⟨comp4, List.forall_mem_cons.2 ⟨comp5, List.forall_mem_cons.2 ⟨comp6, List.forall_mem_cons.2 ⟨comp7, List.forall_mem_cons.2 ⟨comp8, List.forall_mem_cons.2 ⟨comp12, List.forall_mem_cons.2 ⟨comp13, List.forall_mem_cons.2 ⟨comp14, List.forall_mem_cons.2 ⟨comp15, List.forall_mem_cons.2 ⟨comp16, List.forall_mem_cons.2 ⟨comp17, List.forall_mem_cons.2 ⟨comp18, List.forall_mem_cons.2 ⟨comp19, List.forall_mem_cons.2 ⟨comp20, List.forall_mem_cons.2 ⟨comp21, List.forall_mem_cons.2 ⟨comp22, List.forall_mem_cons.2 ⟨comp23, List.forall_mem_cons.2 ⟨comp25, List.forall_mem_cons.2 ⟨comp26, List.forall_mem_cons.2 ⟨comp27, List.forall_mem_cons.2 ⟨comp28, List.forall_mem_cons.2 ⟨comp29, List.forall_mem_cons.2 ⟨comp30, List.forall_mem_cons.2 ⟨comp31, List.forall_mem_cons.2 ⟨comp32, List.forall_mem_cons.2 ⟨comp34, List.forall_mem_cons.2 ⟨comp37, List.forall_mem_cons.2 ⟨comp50, List.forall_mem_cons.2 ⟨comp51, List.forall_mem_cons.2 ⟨comp52, List.forall_mem_cons.2 ⟨comp53, List.forall_mem_cons.2 ⟨comp54, List.forall_mem_cons.2 ⟨comp55, List.forall_mem_cons.2 ⟨comp56, List.forall_mem_cons.2 ⟨comp57, List.forall_mem_cons.2 ⟨comp58, List.forall_mem_cons.2 ⟨comp59, List.forall_mem_cons.2 ⟨comp60, List.forall_mem_cons.2 ⟨comp61, List.forall_mem_cons.2 ⟨comp62, List.forall_mem_cons.2 ⟨comp63, List.forall_mem_cons.2 ⟨comp64, List.forall_mem_cons.2 ⟨comp65, List.forall_mem_cons.2 ⟨comp66, List.forall_mem_cons.2 ⟨comp67, List.forall_mem_cons.2 ⟨comp68, List.forall_mem_cons.2 ⟨comp69, List.forall_mem_cons.2 ⟨comp73, List.forall_mem_cons.2 ⟨comp76, List.forall_mem_cons.2 ⟨comp87, List.forall_mem_cons.2 ⟨comp88, List.forall_mem_cons.2 ⟨comp89, List.forall_mem_cons.2 ⟨comp90, List.forall_mem_cons.2 ⟨comp91, List.forall_mem_cons.2 ⟨comp92, List.forall_mem_cons.2 ⟨comp93, List.forall_mem_cons.2 ⟨comp94, List.forall_mem_cons.2 ⟨comp95, List.forall_mem_cons.2 ⟨comp114, List.forall_mem_cons.2 ⟨comp115, List.forall_mem_cons.2 ⟨comp116, List.forall_mem_cons.2 ⟨comp117, List.forall_mem_cons.2 ⟨comp121, List.forall_mem_cons.2 ⟨comp122, List.forall_mem_cons.2 ⟨comp123, List.forall_mem_cons.2 ⟨comp124, List.forall_mem_cons.2 ⟨comp125, List.forall_mem_cons.2 ⟨comp142, fun _ h => nomatch h⟩⟩⟩⟩⟩⟩⟩⟩⟩⟩⟩⟩⟩⟩⟩⟩⟩⟩⟩⟩⟩⟩⟩⟩⟩⟩⟩⟩⟩⟩⟩⟩⟩⟩⟩⟩⟩⟩⟩⟩⟩⟩⟩⟩⟩⟩⟩⟩⟩⟩⟩⟩⟩⟩⟩⟩⟩⟩⟩⟩⟩⟩⟩⟩⟩⟩⟩⟩⟩
theorem T_ok : ∀ f F, T f = some F → compF Try.prog f = some F := by
  intro f F h
  unfold T at h
  cases hf : tab.find? (fun p => p.1 == f) with
  | none => simp [hf] at h
  | some p =>
    simp [hf] at h
    have h1 := tab_ok p (List.mem_of_find?_eq_some hf)
    have h2 := List.find?_some hf
    simp at h2
    rw [← h2, ← h]; exact h1
theorem T3 : T 3 = some F3 := rfl
theorem T4 : T 4 = some F4 := rfl
theorem T5 : T 5 = some F5 := rfl
theorem T6 : T 6 = some F6 := rfl
theorem T7 : T 7 = some F7 := rfl
theorem T8 : T 8 = some F8 := rfl
theorem T12 : T 12 = some F12 := rfl
theorem T13 : T 13 = some F13 := rfl
theorem T14 : T 14 = some F14 := rfl
theorem T15 : T 15 = some F15 := rfl
theorem T16 : T 16 = some F16 := rfl
theorem T17 : T 17 = some F17 := rfl
theorem T18 : T 18 = some F18 := rfl
theorem T19 : T 19 = some F19 := rfl
theorem T20 : T 20 = some F20 := rfl
theorem T21 : T 21 = some F21 := rfl
theorem T22 : T 22 = some F22 := rfl
theorem T23 : T 23 = some F23 := rfl
theorem T25 : T 25 = some F25 := rfl
theorem T26 : T 26 = some F26 := rfl
theorem T27 : T 27 = some F27 := rfl
theorem T28 : T 28 = some F28 := rfl
theorem T29 : T 29 = some F29 := rfl
theorem T30 : T 30 = some F30 := rfl
theorem T31 : T 31 = some F31 := rfl
theorem T32 : T 32 = some F32 := rfl
theorem T34 : T 34 = some F34 := rfl
theorem T37 : T 37 = some F37 := rfl
theorem T50 : T 50 = some F50 := rfl
theorem T51 : T 51 = some F51 := rfl
theorem T52 : T 52 = some F52 := rfl
theorem T53 : T 53 = some F53 := rfl
theorem T54 : T 54 = some F54 := rfl
theorem T55 : T 55 = some F55 := rfl
theorem T56 : T 56 = some F56 := rfl
theorem T57 : T 57 = some F57 := rfl
theorem T58 : T 58 = some F58 := rfl
theorem T59 : T 59 = some F59 := rfl
theorem T60 : T 60 = some F60 := rfl
theorem T61 : T 61 = some F61 := rfl
theorem T62 : T 62 = some F62 := rfl
theorem T63 : T 63 = some F63 := rfl
theorem T64 : T 64 = some F64 := rfl
theorem T65 : T 65 = some F65 := rfl
theorem T66 : T 66 = some F66 := rfl
theorem T67 : T 67 = some F67 := rfl
theorem T68 : T 68 = some F68 := rfl
theorem T69 : T 69 = some F69 := rfl
theorem T73 : T 73 = some F73 := rfl
theorem T76 : T 76 = some F76 := rfl
theorem T87 : T 87 = some F87 := rfl
theorem T88 : T 88 = some F88 := rfl
theorem T89 : T 89 = some F89 := rfl
theorem T90 : T 90 = some F90 := rfl
theorem T91 : T 91 = some F91 := rfl
theorem T92 : T 92 = some F92 := rfl
theorem T93 : T 93 = some F93 := rfl
theorem T94 : T 94 = some F94 := rfl
theorem T95 : T 95 = some F95 := rfl
theorem T114 : T 114 = some F114 := rfl
theorem T115 : T 115 = some F115 := rfl
theorem T116 : T 116 = some F116 := rfl
theorem T117 : T 117 = some F117 := rfl
theorem T121 : T 121 = some F121 := rfl
theorem T122 : T 122 = some F122 := rfl
theorem T123 : T 123 = some F123 := rfl
theorem T124 : T 124 = some F124 := rfl
theorem T125 : T 125 = some F125 := rfl
theorem T142 : T 142 = some F142 := rfl
theorem body3 : F3.body = B3 := rfl
theorem np3 : F3.np = 1 := rfl
theorem res3 : F3.res = [(.tmp 2)] := rfl
theorem start3 {xs : List AV} : F3.start xs = ⟨startT 0 xs ++ List.replicate (52 - xs.length) .unk, startO xs ++ List.replicate (52 - xs.length) ⟨0, [], .dead⟩⟩ := rfl
theorem body4 : F4.body = B4 := rfl
theorem np4 : F4.np = 1 := rfl
theorem res4 : F4.res = [(.tmp 2)] := rfl
theorem start4 {xs : List AV} : F4.start xs = ⟨startT 0 xs ++ List.replicate (31 - xs.length) .unk, startO xs ++ List.replicate (31 - xs.length) ⟨0, [], .dead⟩⟩ := rfl
theorem body5 : F5.body = B5 := rfl
theorem np5 : F5.np = 2 := rfl
theorem res5 : F5.res = [(.tmp 4)] := rfl
theorem start5 {xs : List AV} : F5.start xs = ⟨startT 0 xs ++ List.replicate (157 - xs.length) .unk, startO xs ++ List.replicate (157 - xs.length) ⟨0, [], .dead⟩⟩ := rfl
theorem body6 : F6.body = B6 := rfl
theorem np6 : F6.np = 3 := rfl
theorem res6 : F6.res = [(.tmp 6)] := rfl
theorem start6 {xs : List AV} : F6.start xs = ⟨startT 0 xs ++ List.replicate (98 - xs.length) .unk, startO xs ++ List.replicate (98 - xs.length) ⟨0, [], .dead⟩⟩ := rfl
theorem body7 : F7.body = B7 := rfl
theorem np7 : F7.np = 1 := rfl
theorem res7 : F7.res = [(.tmp 2)] := rfl
theorem start7 {xs : List AV} : F7.start xs = ⟨startT 0 xs ++ List.replicate (116 - xs.length) .unk, startO xs ++ List.replicate (116 - xs.length) ⟨0, [], .dead⟩⟩ := rfl
theorem body8 : F8.body = B8 := rfl
theorem np8 : F8.np = 2 := rfl
theorem res8 : F8.res = [(.tmp 4)] := rfl
theorem start8 {xs : List AV} : F8.start xs = ⟨startT 0 xs ++ List.replicate (108 - xs.length) .unk, startO xs ++ List.replicate (108 - xs.length) ⟨0, [], .dead⟩⟩ := rfl
theorem body12 : F12.body = B12 := rfl
theorem np12 : F12.np = 0 := rfl
theorem res12 : F12.res = [(.tmp 0)] := rfl
theorem start12 {xs : List AV} : F12.start xs = ⟨startT 0 xs ++ List.replicate (35 - xs.length) .unk, startO xs ++ List.replicate (35 - xs.length) ⟨0, [], .dead⟩⟩ := rfl
theorem body13 : F13.body = B13 := rfl
theorem np13 : F13.np = 1 := rfl
theorem res13 : F13.res = [(.tmp 2)] := rfl
theorem start13 {xs : List AV} : F13.start xs = ⟨startT 0 xs ++ List.replicate (24 - xs.length) .unk, startO xs ++ List.replicate (24 - xs.length) ⟨0, [], .dead⟩⟩ := rfl
theorem body14 : F14.body = B14 := rfl
theorem np14 : F14.np = 1 := rfl
theorem res14 : F14.res = [(.tsl 2 97 5), (.tmp 3), (.tmp 4)] := rfl
theorem start14 {xs : List AV} : F14.start xs = ⟨startT 0 xs ++ List.replicate (45 - xs.length) .unk, startO xs ++ List.replicate (45 - xs.length) ⟨0, [], .dead⟩⟩ := rfl
theorem body15 : F15.body = B15 := rfl
theorem np15 : F15.np = 1 := rfl
theorem res15 : F15.res = [(.tsl 2 47 2)] := rfl
theorem start15 {xs : List AV} : F15.start xs = ⟨startT 0 xs ++ List.replicate (5 - xs.length) .unk, startO xs ++ List.replicate (5 - xs.length) ⟨0, [], .dead⟩⟩ := rfl
theorem body16 : F16.body = B16 := rfl
theorem np16 : F16.np = 1 := rfl
theorem res16 : F16.res = [(.tmp 2), (.tmp 3)] := rfl
theorem start16 {xs : List AV} : F16.start xs = ⟨startT 0 xs ++ List.replicate (53 - xs.length) .unk, startO xs ++ List.replicate (53 - xs.length) ⟨0, [], .dead⟩⟩ := rfl
theorem body17 : F17.body = B17 := rfl
theorem np17 : F17.np = 2 := rfl
theorem res17 : F17.res = [(.tmp 4)] := rfl
theorem start17 {xs : List AV} : F17.start xs = ⟨startT 0 xs ++ List.replicate (27 - xs.length) .unk, startO xs ++ List.replicate (27 - xs.length) ⟨0, [], .dead⟩⟩ := rfl
theorem body18 : F18.body = B18 := rfl
theorem np18 : F18.np = 1 := rfl
theorem res18 : F18.res = [(.tsl 2 97 5)] := rfl
theorem start18 {xs : List AV} : F18.start xs = ⟨startT 0 xs ++ List.replicate (10 - xs.length) .unk, startO xs ++ List.replicate (10 - xs.length) ⟨0, [], .dead⟩⟩ := rfl
theorem body19 : F19.body = B19 := rfl
theorem np19 : F19.np = 1 := rfl
theorem res19 : F19.res = [(.tmp 2)] := rfl
theorem start19 {xs : List AV} : F19.start xs = ⟨startT 0 xs ++ List.replicate (29 - xs.length) .unk, startO xs ++ List.replicate (29 - xs.length) ⟨0, [], .dead⟩⟩ := rfl
theorem body20 : F20.body = B20 := rfl
theorem np20 : F20.np = 1 := rfl
theorem res20 : F20.res = [(.tmp 2), (.tmp 3)] := rfl
theorem start20 {xs : List AV} : F20.start xs = ⟨startT 0 xs ++ List.replicate (46 - xs.length) .unk, startO xs ++ List.replicate (46 - xs.length) ⟨0, [], .dead⟩⟩ := rfl
theorem body21 : F21.body = B21 := rfl
theorem np21 : F21.np = 1 := rfl
theorem res21 : F21.res = [(.tsl 2 97 5)] := rfl
theorem start21 {xs : List AV} : F21.start xs = ⟨startT 0 xs ++ List.replicate (25 - xs.length) .unk, startO xs ++ List.replicate (25 - xs.length) ⟨0, [], .dead⟩⟩ := rfl
theorem body22 : F22.body = B22 := rfl
theorem np22 : F22.np = 1 := rfl
theorem res22 : F22.res = [(.tmp 2), (.tmp 3)] := rfl
theorem start22 {xs : List AV} : F22.start xs = ⟨startT 0 xs ++ List.replicate (66 - xs.length) .unk, startO xs ++ List.replicate (66 - xs.length) ⟨0, [], .dead⟩⟩ := rfl
theorem body23 : F23.body = B23 := rfl
theorem np23 : F23.np = 1 := rfl
theorem res23 : F23.res = [(.tmp 2)] := rfl
theorem start23 {xs : List AV} : F23.start xs = ⟨startT 0 xs ++ List.replicate (11 - xs.length) .unk, startO xs ++ List.replicate (11 - xs.length) ⟨0, [], .dead⟩⟩ := rfl
theorem body25 : F25.body = B25 := rfl
theorem np25 : F25.np = 3 := rfl
theorem res25 : F25.res = [(.tmp 6), (.tmp 7)] := rfl
theorem start25 {xs : List AV} : F25.start xs = ⟨startT 0 xs ++ List.replicate (25 - xs.length) .unk, startO xs ++ List.replicate (25 - xs.length) ⟨0, [], .dead⟩⟩ := rfl
theorem body26 : F26.body = B26 := rfl
theorem np26 : F26.np = 3 := rfl
theorem res26 : F26.res = [(.tmp 6)] := rfl
theorem start26 {xs : List AV} : F26.start xs = ⟨startT 0 xs ++ List.replicate (37 - xs.length) .unk, startO xs ++ List.replicate (37 - xs.length) ⟨0, [], .dead⟩⟩ := rfl
theorem body27 : F27.body = B27 := rfl
theorem np27 : F27.np = 1 := rfl
theorem res27 : F27.res = [(.tsl 2 47 2)] := rfl
theorem start27 {xs : List AV} : F27.start xs = ⟨startT 0 xs ++ List.replicate (5 - xs.length) .unk, startO xs ++ List.replicate (5 - xs.length) ⟨0, [], .dead⟩⟩ := rfl
theorem body28 : F28.body = B28 := rfl
theorem np28 : F28.np = 2 := rfl
theorem res28 : F28.res = [(.cell 4 (some 2)), (.tmp 5)] := rfl
theorem start28 {xs : List AV} : F28.start xs = ⟨startT 0 xs ++ List.replicate (29 - xs.length) .unk, startO xs ++ List.replicate (29 - xs.length) ⟨0, [], .dead⟩⟩ := rfl
theorem body29 : F29.body = B29 := rfl
theorem np29 : F29.np = 3 := rfl
theorem res29 : F29.res = [(.tmp 6)] := rfl
theorem start29 {xs : List AV} : F29.start xs = ⟨startT 0 xs ++ List.replicate (15 - xs.length) .unk, startO xs ++ List.replicate (15 - xs.length) ⟨0, [], .dead⟩⟩ := rfl
theorem body30 : F30.body = B30 := rfl
theorem np30 : F30.np = 3 := rfl
theorem res30 : F30.res = [(.tsl 6 47 2), (.tmp 7)] := rfl
theorem start30 {xs : List AV} : F30.start xs = ⟨startT 0 xs ++ List.replicate (43 - xs.length) .unk, startO xs ++ List.replicate (43 - xs.length) ⟨0, [], .dead⟩⟩ := rfl
theorem body31 : F31.body = B31 := rfl
theorem np31 : F31.np = 2 := rfl
theorem res31 : F31.res = [(.tmp 4)] := rfl
theorem start31 {xs : List AV} : F31.start xs = ⟨startT 0 xs ++ List.replicate (26 - xs.length) .unk, startO xs ++ List.replicate (26 - xs.length) ⟨0, [], .dead⟩⟩ := rfl
theorem body32 : F32.body = B32 := rfl
theorem np32 : F32.np = 3 := rfl
theorem res32 : F32.res = [(.tsl 6 47 2)] := rfl
theorem start32 {xs : List AV} : F32.start xs = ⟨startT 0 xs ++ List.replicate (48 - xs.length) .unk, startO xs ++ List.replicate (48 - xs.length) ⟨0, [], .dead⟩⟩ := rfl
theorem body34 : F34.body = B34 := rfl
theorem np34 : F34.np = 1 := rfl
theorem res34 : F34.res = [(.tmp 2)] := rfl
theorem start34 {xs : List AV} : F34.start xs = ⟨startT 0 xs ++ List.replicate (4 - xs.length) .unk, startO xs ++ List.replicate (4 - xs.length) ⟨0, [], .dead⟩⟩ := rfl
theorem body37 : F37.body = B37 := rfl
theorem np37 : F37.np = 2 := rfl
theorem res37 : F37.res = [(.tmp 4)] := rfl
theorem start37 {xs : List AV} : F37.start xs = ⟨startT 0 xs ++ List.replicate (26 - xs.length) .unk, startO xs ++ List.replicate (26 - xs.length) ⟨0, [], .dead⟩⟩ := rfl
theorem body50 : F50.body = B50 := rfl
theorem np50 : F50.np = 0 := rfl
theorem res50 : F50.res = [(.tsl 0 47 2)] := rfl
theorem start50 {xs : List AV} : F50.start xs = ⟨startT 0 xs ++ List.replicate (4 - xs.length) .unk, startO xs ++ List.replicate (4 - xs.length) ⟨0, [], .dead⟩⟩ := rfl
theorem body51 : F51.body = B51 := rfl
theorem np51 : F51.np = 1 := rfl
theorem res51 : F51.res = [(.tmp 2)] := rfl
theorem start51 {xs : List AV} : F51.start xs = ⟨startT 0 xs ++ List.replicate (15 - xs.length) .unk, startO xs ++ List.replicate (15 - xs.length) ⟨0, [], .dead⟩⟩ := rfl
theorem body52 : F52.body = B52 := rfl
theorem np52 : F52.np = 1 := rfl
theorem res52 : F52.res = [(.tmp 2)] := rfl
theorem start52 {xs : List AV} : F52.start xs = ⟨startT 0 xs ++ List.replicate (24 - xs.length) .unk, startO xs ++ List.replicate (24 - xs.length) ⟨0, [], .dead⟩⟩ := rfl
theorem body53 : F53.body = B53 := rfl
theorem np53 : F53.np = 2 := rfl
theorem res53 : F53.res = [(.tmp 4)] := rfl
theorem start53 {xs : List AV} : F53.start xs = ⟨startT 0 xs ++ List.replicate (7 - xs.length) .unk, startO xs ++ List.replicate (7 - xs.length) ⟨0, [], .dead⟩⟩ := rfl
theorem body54 : F54.body = B54 := rfl
theorem np54 : F54.np = 2 := rfl
theorem res54 : F54.res = [(.tmp 4)] := rfl
theorem start54 {xs : List AV} : F54.start xs = ⟨startT 0 xs ++ List.replicate (9 - xs.length) .unk, startO xs ++ List.replicate (9 - xs.length) ⟨0, [], .dead⟩⟩ := rfl
theorem body55 : F55.body = B55 := rfl
theorem np55 : F55.np = 1 := rfl
theorem res55 : F55.res = [(.tsl 2 97 5)] := rfl
theorem start55 {xs : List AV} : F55.start xs = ⟨startT 0 xs ++ List.replicate (10 - xs.length) .unk, startO xs ++ List.replicate (10 - xs.length) ⟨0, [], .dead⟩⟩ := rfl
theorem body56 : F56.body = B56 := rfl
theorem np56 : F56.np = 1 := rfl
theorem res56 : F56.res = [(.tmp 2)] := rfl
theorem start56 {xs : List AV} : F56.start xs = ⟨startT 0 xs ++ List.replicate (14 - xs.length) .unk, startO xs ++ List.replicate (14 - xs.length) ⟨0, [], .dead⟩⟩ := rfl
theorem body57 : F57.body = B57 := rfl
theorem np57 : F57.np = 2 := rfl
theorem res57 : F57.res = [(.tmp 4)] := rfl
theorem start57 {xs : List AV} : F57.start xs = ⟨startT 0 xs ++ List.replicate (38 - xs.length) .unk, startO xs ++ List.replicate (38 - xs.length) ⟨0, [], .dead⟩⟩ := rfl
theorem body58 : F58.body = B58 := rfl
theorem np58 : F58.np = 2 := rfl
theorem res58 : F58.res = [(.tsl 4 97 5)] := rfl
theorem start58 {xs : List AV} : F58.start xs = ⟨startT 0 xs ++ List.replicate (76 - xs.length) .unk, startO xs ++ List.replicate (76 - xs.length) ⟨0, [], .dead⟩⟩ := rfl
theorem body59 : F59.body = B59 := rfl
theorem np59 : F59.np = 1 := rfl
theorem res59 : F59.res = [(.tsl 2 140 2)] := rfl
theorem start59 {xs : List AV} : F59.start xs = ⟨startT 0 xs ++ List.replicate (64 - xs.length) .unk, startO xs ++ List.replicate (64 - xs.length) ⟨0, [], .dead⟩⟩ := rfl
theorem body60 : F60.body = B60 := rfl
theorem np60 : F60.np = 1 := rfl
theorem res60 : F60.res = [(.tsl 2 47 2)] := rfl
theorem start60 {xs : List AV} : F60.start xs = ⟨startT 0 xs ++ List.replicate (53 - xs.length) .unk, startO xs ++ List.replicate (53 - xs.length) ⟨0, [], .dead⟩⟩ := rfl
theorem body61 : F61.body = B61 := rfl
theorem np61 : F61.np = 1 := rfl
theorem res61 : F61.res = [(.tmp 2), (.tmp 3)] := rfl
theorem start61 {xs : List AV} : F61.start xs = ⟨startT 0 xs ++ List.replicate (94 - xs.length) .unk, startO xs ++ List.replicate (94 - xs.length) ⟨0, [], .dead⟩⟩ := rfl
theorem body62 : F62.body = B62 := rfl
theorem np62 : F62.np = 1 := rfl
theorem res62 : F62.res = [(.tsl 2 47 2)] := rfl
theorem start62 {xs : List AV} : F62.start xs = ⟨startT 0 xs ++ List.replicate (34 - xs.length) .unk, startO xs ++ List.replicate (34 - xs.length) ⟨0, [], .dead⟩⟩ := rfl
theorem body63 : F63.body = B63 := rfl
theorem np63 : F63.np = 2 := rfl
theorem res63 : F63.res = [(.tmp 4)] := rfl
theorem start63 {xs : List AV} : F63.start xs = ⟨startT 0 xs ++ List.replicate (38 - xs.length) .unk, startO xs ++ List.replicate (38 - xs.length) ⟨0, [], .dead⟩⟩ := rfl
theorem body64 : F64.body = B64 := rfl
theorem np64 : F64.np = 1 := rfl
theorem res64 : F64.res = [(.tsl 2 3 1)] := rfl
theorem start64 {xs : List AV} : F64.start xs = ⟨startT 0 xs ++ List.replicate (5 - xs.length) .unk, startO xs ++ List.replicate (5 - xs.length) ⟨0, [], .dead⟩⟩ := rfl
theorem body65 : F65.body = B65 := rfl
theorem np65 : F65.np = 3 := rfl
theorem res65 : F65.res = [(.tmp 6)] := rfl
theorem start65 {xs : List AV} : F65.start xs = ⟨startT 0 xs ++ List.replicate (89 - xs.length) .unk, startO xs ++ List.replicate (89 - xs.length) ⟨0, [], .dead⟩⟩ := rfl
theorem body66 : F66.body = B66 := rfl
theorem np66 : F66.np = 1 := rfl
theorem res66 : F66.res = [(.tsl 2 47 2)] := rfl
theorem start66 {xs : List AV} : F66.start xs = ⟨startT 0 xs ++ List.replicate (48 - xs.length) .unk, startO xs ++ List.replicate (48 - xs.length) ⟨0, [], .dead⟩⟩ := rfl
theorem body67 : F67.body = B67 := rfl
theorem np67 : F67.np = 1 := rfl
theorem res67 : F67.res = [(.tmp 2)] := rfl
theorem start67 {xs : List AV} : F67.start xs = ⟨startT 0 xs ++ List.replicate (11 - xs.length) .unk, startO xs ++ List.replicate (11 - xs.length) ⟨0, [], .dead⟩⟩ := rfl
theorem body68 : F68.body = B68 := rfl
theorem np68 : F68.np = 3 := rfl
theorem res68 : F68.res = [(.tmp 6)] := rfl
theorem start68 {xs : List AV} : F68.start xs = ⟨startT 0 xs ++ List.replicate (33 - xs.length) .unk, startO xs ++ List.replicate (33 - xs.length) ⟨0, [], .dead⟩⟩ := rfl
theorem body69 : F69.body = B69 := rfl
theorem np69 : F69.np = 2 := rfl
theorem res69 : F69.res = [(.tmp 4)] := rfl
theorem start69 {xs : List AV} : F69.start xs = ⟨startT 0 xs ++ List.replicate (18 - xs.length) .unk, startO xs ++ List.replicate (18 - xs.length) ⟨0, [], .dead⟩⟩ := rfl
theorem body73 : F73.body = B73 := rfl
theorem np73 : F73.np = 2 := rfl
theorem res73 : F73.res = [(.tmp 4)] := rfl
theorem start73 {xs : List AV} : F73.start xs = ⟨startT 0 xs ++ List.replicate (15 - xs.length) .unk, startO xs ++ List.replicate (15 - xs.length) ⟨0, [], .dead⟩⟩ := rfl
theorem body76 : F76.body = B76 := rfl
theorem np76 : F76.np = 2 := rfl
theorem res76 : F76.res = [(.tmp 4)] := rfl
theorem start76 {xs : List AV} : F76.start xs = ⟨startT 0 xs ++ List.replicate (19 - xs.length) .unk, startO xs ++ List.replicate (19 - xs.length) ⟨0, [], .dead⟩⟩ := rfl
theorem body87 : F87.body = B87 := rfl
theorem np87 : F87.np = 2 := rfl
theorem res87 : F87.res = [(.tsl 4 97 5)] := rfl
theorem start87 {xs : List AV} : F87.start xs = ⟨startT 0 xs ++ List.replicate (77 - xs.length) .unk, startO xs ++ List.replicate (77 - xs.length) ⟨0, [], .dead⟩⟩ := rfl
theorem body88 : F88.body = B88 := rfl
theorem np88 : F88.np = 2 := rfl
theorem res88 : F88.res = [(.tsl 4 47 2)] := rfl
theorem start88 {xs : List AV} : F88.start xs = ⟨startT 0 xs ++ List.replicate (12 - xs.length) .unk, startO xs ++ List.replicate (12 - xs.length) ⟨0, [], .dead⟩⟩ := rfl
theorem body89 : F89.body = B89 := rfl
theorem np89 : F89.np = 1 := rfl
theorem res89 : F89.res = [(.tmp 2)] := rfl
theorem start89 {xs : List AV} : F89.start xs = ⟨startT 0 xs ++ List.replicate (4 - xs.length) .unk, startO xs ++ List.replicate (4 - xs.length) ⟨0, [], .dead⟩⟩ := rfl
theorem body90 : F90.body = B90 := rfl
theorem np90 : F90.np = 2 := rfl
theorem res90 : F90.res = [(.tmp 4)] := rfl
theorem start90 {xs : List AV} : F90.start xs = ⟨startT 0 xs ++ List.replicate (17 - xs.length) .unk, startO xs ++ List.replicate (17 - xs.length) ⟨0, [], .dead⟩⟩ := rfl
theorem body91 : F91.body = B91 := rfl
theorem np91 : F91.np = 2 := rfl
theorem res91 : F91.res = [(.tmp 4)] := rfl
theorem start91 {xs : List AV} : F91.start xs = ⟨startT 0 xs ++ List.replicate (24 - xs.length) .unk, startO xs ++ List.replicate (24 - xs.length) ⟨0, [], .dead⟩⟩ := rfl
theorem body92 : F92.body = B92 := rfl
theorem np92 : F92.np = 1 := rfl
theorem res92 : F92.res = [(.tmp 2)] := rfl
theorem start92 {xs : List AV} : F92.start xs = ⟨startT 0 xs ++ List.replicate (26 - xs.length) .unk, startO xs ++ List.replicate (26 - xs.length) ⟨0, [], .dead⟩⟩ := rfl
theorem body93 : F93.body = B93 := rfl
theorem np93 : F93.np = 2 := rfl
theorem res93 : F93.res = [(.tmp 4)] := rfl
theorem start93 {xs : List AV} : F93.start xs = ⟨startT 0 xs ++ List.replicate (9 - xs.length) .unk, startO xs ++ List.replicate (9 - xs.length) ⟨0, [], .dead⟩⟩ := rfl
theorem body94 : F94.body = B94 := rfl
theorem np94 : F94.np = 2 := rfl
theorem res94 : F94.res = [(.tmp 4)] := rfl
theorem start94 {xs : List AV} : F94.start xs = ⟨startT 0 xs ++ List.replicate (26 - xs.length) .unk, startO xs ++ List.replicate (26 - xs.length) ⟨0, [], .dead⟩⟩ := rfl
theorem body95 : F95.body = B95 := rfl
theorem np95 : F95.np = 2 := rfl
theorem res95 : F95.res = [(.tmp 4)] := rfl
theorem start95 {xs : List AV} : F95.start xs = ⟨startT 0 xs ++ List.replicate (8 - xs.length) .unk, startO xs ++ List.replicate (8 - xs.length) ⟨0, [], .dead⟩⟩ := rfl
theorem body114 : F114.body = B114 := rfl
theorem np114 : F114.np = 2 := rfl
theorem res114 : F114.res = [(.tmp 4)] := rfl
theorem start114 {xs : List AV} : F114.start xs = ⟨startT 0 xs ++ List.replicate (16 - xs.length) .unk, startO xs ++ List.replicate (16 - xs.length) ⟨0, [], .dead⟩⟩ := rfl
theorem body115 : F115.body = B115 := rfl
theorem np115 : F115.np = 2 := rfl
theorem res115 : F115.res = [(.tmp 4)] := rfl
theorem start115 {xs : List AV} : F115.start xs = ⟨startT 0 xs ++ List.replicate (19 - xs.length) .unk, startO xs ++ List.replicate (19 - xs.length) ⟨0, [], .dead⟩⟩ := rfl
theorem body116 : F116.body = B116 := rfl
theorem np116 : F116.np = 2 := rfl
theorem res116 : F116.res = [(.tmp 3)] := rfl
theorem start116 {xs : List AV} : F116.start xs = ⟨startT 0 xs ++ List.replicate (9 - xs.length) .unk, startO xs ++ List.replicate (9 - xs.length) ⟨0, [], .dead⟩⟩ := rfl
theorem body117 : F117.body = B117 := rfl
theorem np117 : F117.np = 2 := rfl
theorem res117 : F117.res = [(.tmp 4)] := rfl
theorem start117 {xs : List AV} : F117.start xs = ⟨startT 0 xs ++ List.replicate (15 - xs.length) .unk, startO xs ++ List.replicate (15 - xs.length) ⟨0, [], .dead⟩⟩ := rfl
theorem body121 : F121.body = B121 := rfl
theorem np121 : F121.np = 1 := rfl
theorem res121 : F121.res = [(.tmp 2)] := rfl
theorem start121 {xs : List AV} : F121.start xs = ⟨startT 0 xs ++ List.replicate (18 - xs.length) .unk, startO xs ++ List.replicate (18 - xs.length) ⟨0, [], .dead⟩⟩ := rfl
theorem body122 : F122.body = B122 := rfl
theorem np122 : F122.np = 2 := rfl
theorem res122 : F122.res = [(.tmp 4)] := rfl
theorem start122 {xs : List AV} : F122.start xs = ⟨startT 0 xs ++ List.replicate (8 - xs.length) .unk, startO xs ++ List.replicate (8 - xs.length) ⟨0, [], .dead⟩⟩ := rfl
theorem body123 : F123.body = B123 := rfl
theorem np123 : F123.np = 2 := rfl
theorem res123 : F123.res = [(.tmp 4)] := rfl
theorem start123 {xs : List AV} : F123.start xs = ⟨startT 0 xs ++ List.replicate (20 - xs.length) .unk, startO xs ++ List.replicate (20 - xs.length) ⟨0, [], .dead⟩⟩ := rfl
theorem body124 : F124.body = B124 := rfl
theorem np124 : F124.np = 2 := rfl
theorem res124 : F124.res = [(.tmp 4)] := rfl
theorem start124 {xs : List AV} : F124.start xs = ⟨startT 0 xs ++ List.replicate (19 - xs.length) .unk, startO xs ++ List.replicate (19 - xs.length) ⟨0, [], .dead⟩⟩ := rfl
theorem body125 : F125.body = B125 := rfl
theorem np125 : F125.np = 2 := rfl
theorem res125 : F125.res = [(.tmp 4)] := rfl
theorem start125 {xs : List AV} : F125.start xs = ⟨startT 0 xs ++ List.replicate (18 - xs.length) .unk, startO xs ++ List.replicate (18 - xs.length) ⟨0, [], .dead⟩⟩ := rfl
theorem body142 : F142.body = B142 := rfl
theorem np142 : F142.np = 1 := rfl
theorem res142 : F142.res = [(.tmp 2)] := rfl
theorem start142 {xs : List AV} : F142.start xs = ⟨startT 0 xs ++ List.replicate (6 - xs.length) .unk, startO xs ++ List.replicate (6 - xs.length) ⟨0, [], .dead⟩⟩ := rfl
end Go.Nv
