/-
  The functions' intermediate code. Printed by ppcode.lean out of the translation.
-/
import Derived.Test.YtednmmcdjhfflaaCode
import Derived.KernelRfl
namespace Go.Proofs.Ytednmmcdjhfflaa.Vai
open Go
variable {env : Env} {C : Ctx} {call : CallF} {L : Nat} {F : Fr} {S : AS} {Q : AE → Fr → AS → Prop}
def a7_7 : AC := (.cond (.t 83) (.seq (.reg [⟨(some 84), none, .mv (.t 15)⟩,
 ⟨(some 85), none, .eq false .ptr (.t 84) (.c .nilp)⟩,
 ⟨(some 86), none, .mv (.t 85)⟩,
 ⟨(some 87), (some (86, true)), .call 44 []⟩,
 ⟨(some 88), none, .pick (.t 86) (.t 87) (.c (.bool false))⟩,
 ⟨(some 12), none, .mv (.t 88)⟩]) .ret) .skip)
def c7_7 : AC := a7_7
theorem e7_7 : WC C call L c7_7 F S Q = WC C call L a7_7 F S Q := id rfl
def a7_20 : AC := (.cond (.t 171) (.reg [⟨(some 172), none, .mv (.t 4)⟩,
 ⟨(some 173), none, .mv (.t 19)⟩,
 ⟨(some 174), none, .ixs 1 (.t 172) (.t 173)⟩,
 ⟨(some 175), none, .ld1 (.t 174)⟩,
 ⟨(some 28), none, .mv (.t 175)⟩]) (.reg [⟨(some 177), none, .ldn 6 (.t 11)⟩,
 ⟨(some 178), none, .mv (.t 22)⟩,
 ⟨(some 179), none, .call 57 [(.t 177), (.t 178)]⟩,
 ⟨(some 176), none, .mv (.t 179)⟩,
 ⟨(some 180), none, .xt 0 (.t 176)⟩,
 ⟨(some 181), none, .xt 1 (.t 176)⟩,
 ⟨(some 28), none, .mv (.t 180)⟩]))
def c7_20 : AC := a7_20
theorem e7_20 : WC C call L c7_20 F S Q = WC C call L a7_20 F S Q := id rfl
def a7_25 : AC := (.reg [⟨(some 196), none, .mv (.t 31)⟩,
 ⟨(some 197), none, .bin .neq (.t 196) (.c (.int .i64 0))⟩,
 ⟨(some 198), none, .mv (.t 197)⟩,
 ⟨(some 199), (some (198, true)), .mv (.t 19)⟩,
 ⟨(some 200), (some (198, true)), .mv (.t 4)⟩,
 ⟨(some 201), (some (198, true)), .len 0 (.t 200)⟩,
 ⟨(some 202), (some (198, true)), .bin .geq (.t 199) (.t 201)⟩,
 ⟨(some 203), none, .pick (.t 198) (.t 202) (.c (.bool false))⟩])
def c7_25 : AC := .seq a7_25 (.cond (.t 203) (.exit 0) .skip)
theorem e7_25 : WC C call L c7_25 F S Q = WC C call L a7_25 F S (thenK (fun F S => WC C call L (.cond (.t 203) (.exit 0) .skip) F S Q) Q) := id rfl
def a7_24 : AC := (.seq (.reg [⟨(some 192), none, .mv (.t 29)⟩,
 ⟨(some 193), none, .call 48 [(.t 192)]⟩,
 ⟨(some 194), none, .mv (.t 31)⟩,
 ⟨(some 195), none, .bin .neq (.t 193) (.t 194)⟩]) (.cond (.t 195) (.seq (.reg [⟨(some 12), none, .mv (.c (.bool false))⟩]) .ret) .skip))
def c7_24 : AC := .seq a7_24 c7_25
theorem e7_24 : WC C call L c7_24 F S Q = WC C call L a7_24 F S (thenK (fun F S => WC C call L c7_25 F S Q) Q) := id rfl
def a7_23 : AC := (.reg [⟨(some 191), none, .ldn 19 (.t 30)⟩,
 ⟨none, none, .st 19 (.t 17) (.t 191)⟩])
def c7_23 : AC := .seq a7_23 c7_24
theorem e7_23 : WC C call L c7_23 F S Q = WC C call L a7_23 F S (thenK (fun F S => WC C call L c7_24 F S Q) Q) := id rfl
def a7_22 : AC := (.reg [⟨(some 186), none, .ldn 19 (.t 17)⟩,
 ⟨(some 187), none, .mv (.t 28)⟩,
 ⟨(some 188), none, .call 59 [(.t 186), (.t 187)]⟩,
 ⟨(some 185), none, .mv (.t 188)⟩,
 ⟨(some 189), none, .xt 0 (.t 185)⟩,
 ⟨(some 190), none, .xt 1 (.t 185)⟩,
 ⟨(some 30), none, .alloc [(.int .i64 0), (.int .i64 0), (.int .i64 0), (.int .i64 0), (.int .i64 0), .nils, .nils, .nils, .nils, .nils, (.int .i64 0), (.int .i64 0), (.int .i64 0), (.int .i64 0), (.bool false), (.int .i64 0), (.bool false), (.bool false), (.int .i64 0)]⟩,
 ⟨none, none, .st 19 (.t 30) (.t 189)⟩,
 ⟨(some 31), none, .mv (.t 190)⟩])
def c7_22 : AC := .seq a7_22 c7_23
theorem e7_22 : WC C call L c7_22 F S Q = WC C call L a7_22 F S (thenK (fun F S => WC C call L c7_23 F S Q) Q) := id rfl
def a7_21 : AC := (.reg [⟨(some 182), none, .mv (.t 15)⟩,
 ⟨(some 183), none, .mv (.t 28)⟩,
 ⟨(some 184), none, .call 58 [(.t 182), (.t 183)]⟩,
 ⟨(some 29), none, .mv (.t 184)⟩])
def c7_21 : AC := .seq a7_21 c7_22
theorem e7_21 : WC C call L c7_21 F S Q = WC C call L a7_21 F S (thenK (fun F S => WC C call L c7_22 F S Q) Q) := id rfl
def a7_19 : AC := (.seq (.reg [⟨(some 160), none, .mv (.t 19)⟩,
 ⟨(some 161), none, .mv (.t 4)⟩,
 ⟨(some 162), none, .len 0 (.t 161)⟩,
 ⟨(some 163), none, .bin .lss (.t 160) (.t 162)⟩,
 ⟨(some 164), none, .mv (.t 163)⟩,
 ⟨(some 165), (some (164, true)), .mv (.t 4)⟩,
 ⟨(some 166), (some (164, true)), .mv (.t 19)⟩,
 ⟨(some 167), (some (164, true)), .ixs 1 (.t 165) (.t 166)⟩,
 ⟨(some 168), (some (164, true)), .ld1 (.t 167)⟩,
 ⟨(some 169), (some (164, true)), .len 0 (.t 168)⟩,
 ⟨(some 170), (some (164, true)), .bin .gtr (.t 169) (.c (.int .i64 0))⟩,
 ⟨(some 171), none, .pick (.t 164) (.t 170) (.c (.bool false))⟩]) c7_20)
def c7_19 : AC := .seq a7_19 c7_21
theorem e7_19 : WC C call L c7_19 F S Q = WC C call L a7_19 F S (thenK (fun F S => WC C call L c7_21 F S Q) Q) := id rfl
def a7_18 : AC := (.reg [⟨(some 28), none, .mv (.c .nils)⟩])
def c7_18 : AC := .seq a7_18 c7_19
theorem e7_18 : WC C call L c7_18 F S Q = WC C call L a7_18 F S (thenK (fun F S => WC C call L c7_19 F S Q) Q) := id rfl
def a7_17 : AC := (.seq (.reg [⟨(some 152), none, .mv (.t 23)⟩,
 ⟨(some 153), none, .un .not (.t 152)⟩,
 ⟨(some 154), none, .mv (.t 153)⟩,
 ⟨(some 155), (some (154, true)), .mv (.t 19)⟩,
 ⟨(some 156), (some (154, true)), .mv (.t 4)⟩,
 ⟨(some 157), (some (154, true)), .len 0 (.t 156)⟩,
 ⟨(some 158), (some (154, true)), .bin .geq (.t 155) (.t 157)⟩,
 ⟨(some 159), none, .pick (.t 154) (.t 158) (.c (.bool false))⟩]) (.cond (.t 159) (.exit 0) .skip))
def c7_17 : AC := .seq a7_17 c7_18
theorem e7_17 : WC C call L c7_17 F S Q = WC C call L a7_17 F S (thenK (fun F S => WC C call L c7_18 F S Q) Q) := id rfl
def a7_16 : AC := (.seq (.draw [(⟨(some 118), none, .mv (.t 20)⟩, [], [20]),
 (⟨(some 119), none, .mv (.t 22)⟩, [], [22]),
 (⟨(some 120), none, .call 30 [(.t 118), (.t 119)]⟩, [0, 1], [118, 119]),
 (⟨(some 121), none, .un .not (.t 120)⟩, [2, 0, 1], [120]),
 (⟨(some 122), none, .mv (.t 121)⟩, [3, 2, 0, 1], [121]),
 (⟨(some 123), (some (122, false)), .mv (.t 21)⟩, [4, 3, 2, 0, 1], [122, 21]),
 (⟨(some 124), (some (122, false)), .mv (.t 23)⟩, [4, 3, 2, 0, 1], [122, 23]),
 (⟨(some 125), (some (122, false)), .eq true .bool (.t 123) (.t 124)⟩, [5, 6, 4, 3, 2, 0, 1], [122, 123, 124]),
 (⟨(some 126), none, .pick (.t 122) (.c (.bool true)) (.t 125)⟩, [7, 5, 6, 4, 3, 2, 0, 1], [122, 125]),
 (⟨(some 127), none, .mv (.t 126)⟩, [8, 7, 5, 6, 4, 3, 2, 0, 1], [126]),
 (⟨(some 128), (some (127, false)), .ldn 5 (.t 24)⟩, [9, 8, 7, 5, 6, 4, 3, 2, 0, 1], [127, 24]),
 (⟨(some 129), (some (127, false)), .ldn 5 (.t 26)⟩, [9, 8, 7, 5, 6, 4, 3, 2, 0, 1], [127, 26]),
 (⟨(some 130), (some (127, false)), .call 54 [(.t 128), (.t 129)]⟩, [10, 11, 9, 8, 7, 5, 6, 4, 3, 2, 0, 1], [127, 128, 129]),
 (⟨(some 131), (some (127, false)), .un .not (.t 130)⟩, [12, 10, 11, 9, 8, 7, 5, 6, 4, 3, 2, 0, 1], [127, 130]),
 (⟨(some 132), none, .pick (.t 127) (.c (.bool true)) (.t 131)⟩, [13, 12, 10, 11, 9, 8, 7, 5, 6, 4, 3, 2, 0, 1], [127, 131]),
 (⟨(some 133), none, .mv (.t 132)⟩, [14, 13, 12, 10, 11, 9, 8, 7, 5, 6, 4, 3, 2, 0, 1], [132]),
 (⟨(some 134), (some (133, false)), .mv (.t 25)⟩, [15, 14, 13, 12, 10, 11, 9, 8, 7, 5, 6, 4, 3, 2, 0, 1], [133, 25]),
 (⟨(some 135), (some (133, false)), .mv (.t 27)⟩, [15, 14, 13, 12, 10, 11, 9, 8, 7, 5, 6, 4, 3, 2, 0, 1], [133, 27]),
 (⟨(some 136), (some (133, false)), .eq true .bool (.t 134) (.t 135)⟩, [16, 17, 15, 14, 13, 12, 10, 11, 9, 8, 7, 5, 6, 4, 3, 2, 0, 1], [133, 134, 135]),
 (⟨(some 137), none, .pick (.t 133) (.c (.bool true)) (.t 136)⟩, [18, 16, 17, 15, 14, 13, 12, 10, 11, 9, 8, 7, 5, 6, 4, 3, 2, 0, 1], [133, 136]),
 (⟨(some 138), none, .mv (.t 137)⟩, [19, 18, 16, 17, 15, 14, 13, 12, 10, 11, 9, 8, 7, 5, 6, 4, 3, 2, 0, 1], [137]),
 (⟨(some 139), (some (138, false)), .mv (.t 15)⟩, [20, 19, 18, 16, 17, 15, 14, 13, 12, 10, 11, 9, 8, 7, 5, 6, 4, 3, 2, 0, 1], [138, 15]),
 (⟨(some 140), (some (138, false)), .call 55 [(.t 139)]⟩, [21, 20, 19, 18, 16, 17, 15, 14, 13, 12, 10, 11, 9, 8, 7, 5, 6, 4, 3, 2, 0, 1], [138, 139]),
 (⟨(some 141), (some (138, false)), .fad 17 (.t 17)⟩, [20, 19, 18, 16, 17, 15, 14, 13, 12, 10, 11, 9, 8, 7, 5, 6, 4, 3, 2, 0, 1], [138, 17]),
 (⟨(some 142), (some (138, false)), .ld1 (.t 141)⟩, [23, 20, 19, 18, 16, 17, 15, 14, 13, 12, 10, 11, 9, 8, 7, 5, 6, 4, 3, 2, 0, 1], [138, 141]),
 (⟨(some 143), (some (138, false)), .eq true .bool (.t 140) (.t 142)⟩, [22, 21, 24, 23, 20, 19, 18, 16, 17, 15, 14, 13, 12, 10, 11, 9, 8, 7, 5, 6, 4, 3, 2, 0, 1], [138, 140, 142]),
 (⟨(some 144), none, .pick (.t 138) (.c (.bool true)) (.t 143)⟩, [25, 22, 21, 24, 23, 20, 19, 18, 16, 17, 15, 14, 13, 12, 10, 11, 9, 8, 7, 5, 6, 4, 3, 2, 0, 1], [138, 143]),
 (⟨(some 145), none, .mv (.t 144)⟩, [26, 25, 24, 23, 22, 21, 20, 19, 18, 16, 17, 15, 14, 13, 12, 10, 11, 9, 8, 7, 5, 6, 4, 3, 2, 0, 1], [144]),
 (⟨(some 146), (some (145, false)), .mv (.t 15)⟩, [27, 26, 25, 24, 23, 22, 21, 20, 19, 18, 16, 17, 15, 14, 13, 12, 10, 11, 9, 8, 7, 5, 6, 4, 3, 2, 0, 1], [145, 15]),
 (⟨(some 147), (some (145, false)), .call 56 [(.t 146)]⟩, [28, 27, 26, 25, 24, 23, 22, 21, 20, 19, 18, 16, 17, 15, 14, 13, 12, 10, 11, 9, 8, 7, 5, 6, 4, 3, 2, 0, 1], [145, 146]),
 (⟨(some 148), (some (145, false)), .fad 18 (.t 17)⟩, [27, 26, 25, 24, 23, 22, 21, 20, 19, 18, 16, 17, 15, 14, 13, 12, 10, 11, 9, 8, 7, 5, 6, 4, 3, 2, 0, 1], [145, 17]),
 (⟨(some 149), (some (145, false)), .ld1 (.t 148)⟩, [30, 27, 26, 25, 24, 23, 22, 21, 20, 19, 18, 16, 17, 15, 14, 13, 12, 10, 11, 9, 8, 7, 5, 6, 4, 3, 2, 0, 1], [145, 148]),
 (⟨(some 150), (some (145, false)), .bin .neq (.t 147) (.t 149)⟩, [29, 28, 31, 30, 27, 26, 25, 24, 23, 22, 21, 20, 19, 18, 16, 17, 15, 14, 13, 12, 10, 11, 9, 8, 7, 5, 6, 4, 3, 2, 0, 1], [145, 147, 149]),
 (⟨(some 151), none, .pick (.t 145) (.c (.bool true)) (.t 150)⟩, [32, 29, 28, 31, 30, 27, 26, 25, 24, 23, 22, 21, 20, 19, 18, 16, 17, 15, 14, 13, 12, 10, 11, 9, 8, 7, 5, 6, 4, 3, 2, 0, 1], [145, 150])]) (.cond (.t 151) (.seq (.reg [⟨(some 12), none, .mv (.c (.bool false))⟩]) .ret) .skip))
def c7_16 : AC := .seq a7_16 c7_17
theorem e7_16 : WC C call L c7_16 F S Q = WC C call L a7_16 F S (thenK (fun F S => WC C call L c7_17 F S Q) Q) := id rfl
def a7_15 : AC := (.reg [⟨(some 114), none, .ldn 19 (.t 17)⟩,
 ⟨(some 115), none, .call 53 [(.t 114)]⟩,
 ⟨(some 113), none, .mv (.t 115)⟩,
 ⟨(some 116), none, .xt 0 (.t 113)⟩,
 ⟨(some 117), none, .xt 1 (.t 113)⟩,
 ⟨(some 26), none, .alloc [(.int .i64 0), .nils, .nils, .nils, .nils]⟩,
 ⟨none, none, .st 5 (.t 26) (.t 116)⟩,
 ⟨(some 27), none, .mv (.t 117)⟩])
def c7_15 : AC := .seq a7_15 c7_16
theorem e7_15 : WC C call L c7_15 F S Q = WC C call L a7_15 F S (thenK (fun F S => WC C call L c7_16 F S Q) Q) := id rfl
def a7_14 : AC := (.reg [⟨(some 109), none, .mv (.t 15)⟩,
 ⟨(some 110), none, .call 52 [(.t 109)]⟩,
 ⟨(some 108), none, .mv (.t 110)⟩,
 ⟨(some 111), none, .xt 0 (.t 108)⟩,
 ⟨(some 112), none, .xt 1 (.t 108)⟩,
 ⟨(some 24), none, .alloc [(.int .i64 0), .nils, .nils, .nils, .nils]⟩,
 ⟨none, none, .st 5 (.t 24) (.t 111)⟩,
 ⟨(some 25), none, .mv (.t 112)⟩])
def c7_14 : AC := .seq a7_14 c7_15
theorem e7_14 : WC C call L c7_14 F S Q = WC C call L a7_14 F S (thenK (fun F S => WC C call L c7_15 F S Q) Q) := id rfl
def a7_13 : AC := (.reg [⟨(some 104), none, .ldn 19 (.t 17)⟩,
 ⟨(some 105), none, .call 51 [(.t 104)]⟩,
 ⟨(some 103), none, .mv (.t 105)⟩,
 ⟨(some 106), none, .xt 0 (.t 103)⟩,
 ⟨(some 107), none, .xt 1 (.t 103)⟩,
 ⟨(some 22), none, .mv (.t 106)⟩,
 ⟨(some 23), none, .mv (.t 107)⟩])
def c7_13 : AC := .seq a7_13 c7_14
theorem e7_13 : WC C call L c7_13 F S Q = WC C call L a7_13 F S (thenK (fun F S => WC C call L c7_14 F S Q) Q) := id rfl
def a7_12 : AC := (.block 1 (.seq (.reg [⟨(some 99), none, .mv (.t 15)⟩,
 ⟨(some 100), none, .call 50 [(.t 99)]⟩,
 ⟨(some 98), none, .mv (.t 100)⟩,
 ⟨(some 101), none, .xt 0 (.t 98)⟩,
 ⟨(some 102), none, .xt 1 (.t 98)⟩,
 ⟨(some 20), none, .mv (.t 101)⟩,
 ⟨(some 21), none, .mv (.t 102)⟩]) c7_13))
def c7_12 : AC := .seq a7_12 (.reg [⟨(some 96), none, .mv (.t 19)⟩,
 ⟨(some 97), none, .bin .add (.t 96) (.c (.int .i64 1))⟩,
 ⟨(some 19), none, .mv (.t 97)⟩])
theorem e7_12 : WC C call L c7_12 F S Q = WC C call L a7_12 F S (thenK (fun F S => WC C call L (.reg [⟨(some 96), none, .mv (.t 19)⟩,
 ⟨(some 97), none, .bin .add (.t 96) (.c (.int .i64 1))⟩,
 ⟨(some 19), none, .mv (.t 97)⟩]) F S Q) Q) := id rfl
def a7_11 : AC := (.seq (.reg [⟨(some 91), none, .mv (.t 19)⟩,
 ⟨(some 92), none, .mv (.t 4)⟩,
 ⟨(some 93), none, .len 0 (.t 92)⟩,
 ⟨(some 94), none, .bin .add (.t 93) (.c (.int .i64 60))⟩,
 ⟨(some 95), none, .bin .lss (.t 91) (.t 94)⟩]) (.cond (.t 95) .skip (.exit 0)))
def c7_11 : AC := .seq a7_11 c7_12
theorem e7_11 : WC C call L c7_11 F S Q = WC C call L a7_11 F S (thenK (fun F S => WC C call L c7_12 F S Q) Q) := id rfl
def a7_10 : AC := (.block 0 (.loop [0, 1, 2, 3, 4, 5, 7, 11, 12, 13, 14, 15, 16, 17, 18, 19, 20, 21, 22, 23, 24, 25, 26, 27, 28, 29, 30, 31, 44, 81, 83, 90, 95, 151, 159, 171, 195, 203] c7_11))
def c7_10 : AC := a7_10
theorem e7_10 : WC C call L c7_10 F S Q = WC C call L a7_10 F S Q := id rfl
def a7_9 : AC := (.seq (.reg [⟨(some 19), none, .mv (.c (.int .i64 0))⟩]) c7_10)
def c7_9 : AC := .seq a7_9 (.seq (.reg [⟨(some 204), none, .call 44 []⟩,
 ⟨(some 12), none, .mv (.t 204)⟩]) .ret)
theorem e7_9 : WC C call L c7_9 F S Q = WC C call L a7_9 F S (thenK (fun F S => WC C call L (.seq (.reg [⟨(some 204), none, .call 44 []⟩,
 ⟨(some 12), none, .mv (.t 204)⟩]) .ret) F S Q) Q) := id rfl
def a7_8 : AC := (.seq (.reg [⟨(some 89), none, .mv (.t 15)⟩,
 ⟨(some 90), none, .eq false .ptr (.t 89) (.c .nilp)⟩]) (.cond (.t 90) (.seq (.reg [⟨(some 12), none, .mv (.c (.bool false))⟩]) .ret) .skip))
def c7_8 : AC := .seq a7_8 c7_9
theorem e7_8 : WC C call L c7_8 F S Q = WC C call L a7_8 F S (thenK (fun F S => WC C call L c7_9 F S Q) Q) := id rfl
def a7_6 : AC := (.seq (.reg [⟨(some 82), none, .mv (.t 18)⟩,
 ⟨(some 83), none, .bin .neq (.t 82) (.c (.int .i64 0))⟩]) c7_7)
def c7_6 : AC := .seq a7_6 c7_8
theorem e7_6 : WC C call L c7_6 F S Q = WC C call L a7_6 F S (thenK (fun F S => WC C call L c7_8 F S Q) Q) := id rfl
def a7_5 : AC := (.seq (.reg [⟨(some 66), none, .mv (.t 16)⟩,
 ⟨(some 67), none, .call 48 [(.t 66)]⟩,
 ⟨(some 68), none, .mv (.t 18)⟩,
 ⟨(some 69), none, .bin .neq (.t 67) (.t 68)⟩,
 ⟨(some 70), none, .mv (.t 69)⟩,
 ⟨(some 71), (some (70, false)), .ldn 6 (.t 13)⟩,
 ⟨(some 72), (some (70, false)), .ldn 6 (.t 7)⟩,
 ⟨(some 73), (some (70, false)), .call 49 [(.t 71), (.t 72)]⟩,
 ⟨(some 74), (some (70, false)), .un .not (.t 73)⟩,
 ⟨(some 75), none, .pick (.t 70) (.c (.bool true)) (.t 74)⟩,
 ⟨(some 76), none, .mv (.t 75)⟩,
 ⟨(some 77), (some (76, false)), .mv (.t 14)⟩,
 ⟨(some 78), (some (76, false)), .mv (.t 3)⟩,
 ⟨(some 79), (some (76, false)), .call 28 [(.t 77), (.t 78)]⟩,
 ⟨(some 80), (some (76, false)), .un .not (.t 79)⟩,
 ⟨(some 81), none, .pick (.t 76) (.c (.bool true)) (.t 80)⟩]) (.cond (.t 81) (.seq (.reg [⟨(some 12), none, .mv (.c (.bool false))⟩]) .ret) .skip))
def c7_5 : AC := .seq a7_5 c7_6
theorem e7_5 : WC C call L c7_5 F S Q = WC C call L a7_5 F S (thenK (fun F S => WC C call L c7_6 F S Q) Q) := id rfl
def a7_4 : AC := (.reg [⟨(some 59), none, .mv (.t 0)⟩,
 ⟨(some 60), none, .ldn 6 (.t 7)⟩,
 ⟨(some 61), none, .mv (.t 2)⟩,
 ⟨(some 62), none, .mv (.t 3)⟩,
 ⟨(some 63), none, .call 47 [(.t 59), (.t 60), (.t 61), (.t 62)]⟩,
 ⟨(some 58), none, .mv (.t 63)⟩,
 ⟨(some 64), none, .xt 0 (.t 58)⟩,
 ⟨(some 65), none, .xt 1 (.t 58)⟩,
 ⟨(some 17), none, .alloc [(.int .i64 0), (.int .i64 0), (.int .i64 0), (.int .i64 0), (.int .i64 0), .nils, .nils, .nils, .nils, .nils, (.int .i64 0), (.int .i64 0), (.int .i64 0), (.int .i64 0), (.bool false), (.int .i64 0), (.bool false), (.bool false), (.int .i64 0)]⟩,
 ⟨none, none, .st 19 (.t 17) (.t 64)⟩,
 ⟨(some 18), none, .mv (.t 65)⟩])
def c7_4 : AC := .seq a7_4 c7_5
theorem e7_4 : WC C call L c7_4 F S Q = WC C call L a7_4 F S (thenK (fun F S => WC C call L c7_5 F S Q) Q) := id rfl
def a7_3 : AC := (.reg [⟨(some 51), none, .mv (.t 0)⟩,
 ⟨(some 52), none, .ldn 6 (.t 13)⟩,
 ⟨(some 53), none, .mv (.t 2)⟩,
 ⟨(some 54), none, .mv (.t 14)⟩,
 ⟨(some 55), none, .call 46 [(.t 51), (.t 52), (.t 53), (.t 54)]⟩,
 ⟨(some 50), none, .mv (.t 55)⟩,
 ⟨(some 56), none, .xt 0 (.t 50)⟩,
 ⟨(some 57), none, .xt 1 (.t 50)⟩,
 ⟨(some 15), none, .mv (.t 56)⟩,
 ⟨(some 16), none, .mv (.t 57)⟩])
def c7_3 : AC := .seq a7_3 c7_4
theorem e7_3 : WC C call L c7_3 F S Q = WC C call L a7_3 F S (thenK (fun F S => WC C call L c7_4 F S Q) Q) := id rfl
def a7_2 : AC := (.reg [⟨(some 46), none, .ldn 6 (.t 7)⟩,
 ⟨(some 47), none, .call 45 [(.t 46)]⟩,
 ⟨(some 48), none, .mv (.t 3)⟩,
 ⟨(some 49), none, .call 20 [(.t 48)]⟩,
 ⟨(some 13), none, .alloc [(.int .i64 0), (.int .i64 0), (.int .i64 0), (.int .i64 0), .nils, .nils]⟩,
 ⟨none, none, .st 6 (.t 13) (.t 47)⟩,
 ⟨(some 14), none, .mv (.t 49)⟩])
def c7_2 : AC := .seq a7_2 c7_3
theorem e7_2 : WC C call L c7_2 F S Q = WC C call L a7_2 F S (thenK (fun F S => WC C call L c7_3 F S Q) Q) := id rfl
def a7_1 : AC := (.seq (.reg [⟨(some 32), none, .ldn 6 (.t 7)⟩,
 ⟨(some 33), none, .mv (.t 2)⟩,
 ⟨(some 34), none, .mv (.t 3)⟩,
 ⟨(some 35), none, .call 43 [(.t 32), (.t 33), (.t 34)]⟩,
 ⟨(some 36), none, .mv (.t 35)⟩,
 ⟨(some 37), (some (36, false)), .mv (.t 4)⟩,
 ⟨(some 38), (some (36, false)), .len 0 (.t 37)⟩,
 ⟨(some 39), (some (36, false)), .bin .gtr (.t 38) (.c (.int .i64 60))⟩,
 ⟨(some 40), none, .pick (.t 36) (.c (.bool true)) (.t 39)⟩,
 ⟨(some 41), none, .mv (.t 40)⟩,
 ⟨(some 42), (some (41, false)), .ldn 6 (.t 11)⟩,
 ⟨(some 43), (some (41, false)), .call 33 [(.t 42), (.c (.int .i64 20))]⟩,
 ⟨(some 44), none, .pick (.t 41) (.c (.bool true)) (.t 43)⟩]) (.cond (.t 44) (.seq (.reg [⟨(some 45), none, .call 44 []⟩,
 ⟨(some 12), none, .mv (.t 45)⟩]) .ret) .skip))
def c7_1 : AC := .seq a7_1 c7_2
theorem e7_1 : WC C call L c7_1 F S Q = WC C call L a7_1 F S (thenK (fun F S => WC C call L c7_2 F S Q) Q) := id rfl
def a7 : AC := (.reg [⟨(some 7), none, .box (.t 1)⟩,
 ⟨(some 11), none, .box (.t 5)⟩,
 ⟨(some 12), none, .mv (.c (.bool false))⟩])
def c7 : AC := .seq a7 c7_1
theorem e7 : WC C call L c7 F S Q = WC C call L a7 F S (thenK (fun F S => WC C call L c7_1 F S Q) Q) := id rfl
theorem fn7 : (ctxE Try.prog kpN env).fn 7 = some ⟨205, [.tmp 12], c7, .plain⟩ := by kernel_rfl
def a43_5 : AC := (.block 1 (.seq (.reg [⟨(some 36), none, .mv (.t 1)⟩,
 ⟨(some 37), none, .mv (.t 7)⟩,
 ⟨(some 38), none, .ixs 1 (.t 36) (.t 37)⟩,
 ⟨(some 39), none, .ld1 (.t 38)⟩,
 ⟨(some 40), none, .len 0 (.t 39)⟩,
 ⟨(some 41), none, .bin .gtr (.t 40) (.c (.int .i64 60))⟩]) (.cond (.t 41) (.seq (.reg [⟨(some 6), none, .mv (.c (.bool true))⟩]) .ret) .skip)))
def c43_5 : AC := .seq a43_5 (.reg [⟨(some 34), none, .mv (.t 7)⟩,
 ⟨(some 35), none, .bin .add (.t 34) (.c (.int .i64 1))⟩,
 ⟨(some 7), none, .mv (.t 35)⟩])
theorem e43_5 : WC C call L c43_5 F S Q = WC C call L a43_5 F S (thenK (fun F S => WC C call L (.reg [⟨(some 34), none, .mv (.t 7)⟩,
 ⟨(some 35), none, .bin .add (.t 34) (.c (.int .i64 1))⟩,
 ⟨(some 7), none, .mv (.t 35)⟩]) F S Q) Q) := id rfl
def a43_4 : AC := (.seq (.reg [⟨(some 30), none, .mv (.t 7)⟩,
 ⟨(some 31), none, .mv (.t 1)⟩,
 ⟨(some 32), none, .len 0 (.t 31)⟩,
 ⟨(some 33), none, .bin .lss (.t 30) (.t 32)⟩]) (.cond (.t 33) .skip (.exit 0)))
def c43_4 : AC := .seq a43_4 c43_5
theorem e43_4 : WC C call L c43_4 F S Q = WC C call L a43_4 F S (thenK (fun F S => WC C call L c43_5 F S Q) Q) := id rfl
def a43_3 : AC := (.block 0 (.loop [0, 1, 2, 3, 6, 7, 29, 33, 41] c43_4))
def c43_3 : AC := a43_3
theorem e43_3 : WC C call L c43_3 F S Q = WC C call L a43_3 F S Q := id rfl
def a43_2 : AC := (.seq (.reg [⟨(some 7), none, .mv (.c (.int .i64 0))⟩]) c43_3)
def c43_2 : AC := .seq a43_2 (.seq (.reg [⟨(some 6), none, .mv (.c (.bool false))⟩]) .ret)
theorem e43_2 : WC C call L c43_2 F S Q = WC C call L a43_2 F S (thenK (fun F S => WC C call L (.seq (.reg [⟨(some 6), none, .mv (.c (.bool false))⟩]) .ret) F S Q) Q) := id rfl
def a43_1 : AC := (.seq (.reg [⟨(some 8), none, .ldn 6 (.t 3)⟩,
 ⟨(some 9), none, .call 33 [(.t 8), (.c (.int .i64 20))]⟩,
 ⟨(some 10), none, .mv (.t 9)⟩,
 ⟨(some 11), (some (10, false)), .mv (.t 1)⟩,
 ⟨(some 12), (some (10, false)), .len 0 (.t 11)⟩,
 ⟨(some 13), (some (10, false)), .bin .gtr (.t 12) (.c (.int .i64 30))⟩,
 ⟨(some 14), none, .pick (.t 10) (.c (.bool true)) (.t 13)⟩,
 ⟨(some 15), none, .mv (.t 14)⟩,
 ⟨(some 16), (some (15, false)), .mv (.t 2)⟩,
 ⟨(some 17), (some (15, false)), .len 0 (.t 16)⟩,
 ⟨(some 18), (some (15, false)), .bin .gtr (.t 17) (.c (.int .i64 40))⟩,
 ⟨(some 19), (some (15, false)), .mv (.t 18)⟩,
 ⟨(some 20), (some (19, true)), .mv (.t 2)⟩,
 ⟨(some 21), (some (19, true)), .len 0 (.t 20)⟩,
 ⟨(some 22), (some (19, true)), .bin .leq (.t 21) (.c (.int .i64 4096))⟩,
 ⟨(some 23), (some (15, false)), .pick (.t 19) (.t 22) (.c (.bool false))⟩,
 ⟨(some 24), none, .pick (.t 15) (.c (.bool true)) (.t 23)⟩,
 ⟨(some 25), none, .mv (.t 24)⟩,
 ⟨(some 26), (some (25, false)), .mv (.t 2)⟩,
 ⟨(some 27), (some (25, false)), .len 0 (.t 26)⟩,
 ⟨(some 28), (some (25, false)), .bin .gtr (.t 27) (.c (.int .i64 5000))⟩,
 ⟨(some 29), none, .pick (.t 25) (.c (.bool true)) (.t 28)⟩]) (.cond (.t 29) (.seq (.reg [⟨(some 6), none, .mv (.c (.bool true))⟩]) .ret) .skip))
def c43_1 : AC := .seq a43_1 c43_2
theorem e43_1 : WC C call L c43_1 F S Q = WC C call L a43_1 F S (thenK (fun F S => WC C call L c43_2 F S Q) Q) := id rfl
def a43 : AC := (.reg [⟨(some 3), none, .box (.t 0)⟩,
 ⟨(some 6), none, .mv (.c (.bool false))⟩])
def c43 : AC := .seq a43 c43_1
theorem e43 : WC C call L c43 F S Q = WC C call L a43 F S (thenK (fun F S => WC C call L c43_1 F S Q) Q) := id rfl
theorem fn43 : (ctxE Try.prog kpN env).fn 43 = some ⟨42, [.tmp 6], c43, .plain⟩ := by kernel_rfl
def a46_3 : AC := (.reg [⟨(some 30), none, .mv (.t 11)⟩,
 ⟨(some 31), none, .bin .neq (.t 30) (.c (.int .i64 0))⟩])
def c46_3 : AC := .seq a46_3 (.cond (.t 31) (.seq (.reg [⟨(some 32), none, .mv (.t 11)⟩,
 ⟨(some 8), none, .mv (.c .nilp)⟩,
 ⟨(some 9), none, .mv (.t 32)⟩]) .ret) .skip)
theorem e46_3 : WC C call L c46_3 F S Q = WC C call L a46_3 F S (thenK (fun F S => WC C call L (.cond (.t 31) (.seq (.reg [⟨(some 32), none, .mv (.t 11)⟩,
 ⟨(some 8), none, .mv (.c .nilp)⟩,
 ⟨(some 9), none, .mv (.t 32)⟩]) .ret) .skip) F S Q) Q) := id rfl
def a46_15 : AC := (.draw [(⟨(some 86), none, .mv (.t 12)⟩, [], [12]),
 (⟨(some 87), none, .mv (.t 12)⟩, [], [12]),
 (⟨(some 88), none, .nck (.t 87)⟩, [1], [87]),
 (⟨(some 89), none, .fad 7 (.t 88)⟩, [2, 1], [88]),
 (⟨(some 90), none, .ld1 (.t 89)⟩, [3, 2, 1], [89]),
 (⟨(some 91), none, .mv (.t 14)⟩, [], [14]),
 (⟨(some 92), none, .call 90 [(.t 91)]⟩, [5], [91]),
 (⟨(some 93), none, .bslice 1 1 [.nils] [(0, 1, (.t 92))]⟩, [6, 5], [92]),
 (⟨(some 94), none, .app 1 24 (.t 90) (.t 93)⟩, [4, 3, 2, 1, 7, 6, 5], [90, 93]),
 (⟨(some 95), none, .nck (.t 86)⟩, [0, 8, 4, 3, 2, 1, 7, 6, 5], [86]),
 (⟨(some 96), none, .fad 7 (.t 95)⟩, [9, 0, 8, 4, 3, 2, 1, 7, 6, 5], [95]),
 (⟨none, none, .st 1 (.t 96) (.t 94)⟩, [10, 9, 0, 8, 4, 3, 2, 1, 7, 6, 5], [96, 94])])
def c46_15 : AC := a46_15
theorem e46_15 : WC C call L c46_15 F S Q = WC C call L a46_15 F S Q := id rfl
def a46_14 : AC := (.seq (.reg [⟨(some 83), none, .mv (.t 15)⟩,
 ⟨(some 84), none, .mv (.t 13)⟩,
 ⟨(some 85), none, .bin .neq (.t 83) (.t 84)⟩]) (.cond (.t 85) (.seq (.reg [⟨(some 8), none, .mv (.c .nilp)⟩,
 ⟨(some 9), none, .mv (.c (.int .i64 32))⟩]) .ret) .skip))
def c46_14 : AC := .seq a46_14 c46_15
theorem e46_14 : WC C call L c46_14 F S Q = WC C call L a46_14 F S (thenK (fun F S => WC C call L c46_15 F S Q) Q) := id rfl
def a46_13 : AC := (.seq (.reg [⟨(some 80), none, .mv (.t 16)⟩,
 ⟨(some 81), none, .bin .neq (.t 80) (.c (.int .i64 0))⟩]) (.cond (.t 81) (.seq (.reg [⟨(some 82), none, .mv (.t 16)⟩,
 ⟨(some 8), none, .mv (.c .nilp)⟩,
 ⟨(some 9), none, .mv (.t 82)⟩]) .ret) .skip))
def c46_13 : AC := .seq a46_13 c46_14
theorem e46_13 : WC C call L c46_13 F S Q = WC C call L a46_13 F S (thenK (fun F S => WC C call L c46_14 F S Q) Q) := id rfl
def a46_12 : AC := (.reg [⟨(some 75), none, .ldn 6 (.t 5)⟩,
 ⟨(some 76), none, .mv (.t 14)⟩,
 ⟨(some 77), none, .call 110 [(.t 75), (.t 76)]⟩,
 ⟨(some 74), none, .mv (.t 77)⟩,
 ⟨(some 78), none, .xt 0 (.t 74)⟩,
 ⟨(some 79), none, .xt 1 (.t 74)⟩,
 ⟨(some 15), none, .mv (.t 78)⟩,
 ⟨(some 16), none, .mv (.t 79)⟩])
def c46_12 : AC := .seq a46_12 c46_13
theorem e46_12 : WC C call L c46_12 F S Q = WC C call L a46_12 F S (thenK (fun F S => WC C call L c46_13 F S Q) Q) := id rfl
def a46_11 : AC := (.block 1 (.seq (.reg [⟨(some 71), none, .mv (.t 69)⟩,
 ⟨(some 72), none, .ixs 1 (.t 67) (.t 69)⟩,
 ⟨(some 73), none, .ld1 (.t 72)⟩,
 ⟨(some 13), none, .mv (.t 71)⟩,
 ⟨(some 14), none, .mv (.t 73)⟩]) c46_12))
def c46_11 : AC := .seq a46_11 (.reg [⟨(some 97), none, .bin .add (.t 69) (.c (.int .i64 1))⟩,
 ⟨(some 69), none, .mv (.t 97)⟩])
theorem e46_11 : WC C call L c46_11 F S Q = WC C call L a46_11 F S (thenK (fun F S => WC C call L (.reg [⟨(some 97), none, .bin .add (.t 69) (.c (.int .i64 1))⟩,
 ⟨(some 69), none, .mv (.t 97)⟩]) F S Q) Q) := id rfl
def a46_10 : AC := (.cond (.t 70) .skip (.exit 0))
def c46_10 : AC := .seq a46_10 c46_11
theorem e46_10 : WC C call L c46_10 F S Q = WC C call L a46_10 F S (thenK (fun F S => WC C call L c46_11 F S Q) Q) := id rfl
def a46_9 : AC := (.reg [⟨(some 70), none, .bin .lss (.t 69) (.t 68)⟩])
def c46_9 : AC := .seq a46_9 c46_10
theorem e46_9 : WC C call L c46_9 F S Q = WC C call L a46_9 F S (thenK (fun F S => WC C call L c46_10 F S Q) Q) := id rfl
def a46_8 : AC := (.block 0 (.loop [0, 1, 2, 3, 5, 8, 9, 11, 12, 13, 14, 15, 16, 18, 24, 31, 44, 67, 68, 69, 70, 81, 85, 106, 110] c46_9))
def c46_8 : AC := a46_8
theorem e46_8 : WC C call L c46_8 F S Q = WC C call L a46_8 F S Q := id rfl
def a46_17 : AC := (.reg [⟨(some 105), none, .mv (.t 18)⟩,
 ⟨(some 106), none, .bin .neq (.t 105) (.c (.int .i64 0))⟩])
def c46_17 : AC := .seq a46_17 (.cond (.t 106) (.seq (.reg [⟨(some 107), none, .mv (.t 18)⟩,
 ⟨(some 8), none, .mv (.c .nilp)⟩,
 ⟨(some 9), none, .mv (.t 107)⟩]) .ret) .skip)
theorem e46_17 : WC C call L c46_17 F S Q = WC C call L a46_17 F S (thenK (fun F S => WC C call L (.cond (.t 106) (.seq (.reg [⟨(some 107), none, .mv (.t 18)⟩,
 ⟨(some 8), none, .mv (.c .nilp)⟩,
 ⟨(some 9), none, .mv (.t 107)⟩]) .ret) .skip) F S Q) Q) := id rfl
def a46_19 : AC := (.reg [⟨(some 111), none, .mv (.t 12)⟩,
 ⟨(some 112), none, .mv (.t 12)⟩,
 ⟨(some 113), none, .mkfn (.func 111) [(.t 112)] []⟩,
 ⟨(some 114), none, .nck (.t 111)⟩,
 ⟨(some 115), none, .fad 12 (.t 114)⟩,
 ⟨none, none, .st 1 (.t 115) (.t 113)⟩])
def c46_19 : AC := .seq a46_19 (.seq (.reg [⟨(some 116), none, .mv (.t 12)⟩,
 ⟨(some 8), none, .mv (.t 116)⟩,
 ⟨(some 9), none, .mv (.c (.int .i64 0))⟩]) .ret)
theorem e46_19 : WC C call L c46_19 F S Q = WC C call L a46_19 F S (thenK (fun F S => WC C call L (.seq (.reg [⟨(some 116), none, .mv (.t 12)⟩,
 ⟨(some 8), none, .mv (.t 116)⟩,
 ⟨(some 9), none, .mv (.c (.int .i64 0))⟩]) .ret) F S Q) Q) := id rfl
def a46_18 : AC := (.seq (.reg [⟨(some 108), none, .mv (.t 3)⟩,
 ⟨(some 109), none, .len 0 (.t 108)⟩,
 ⟨(some 110), none, .bin .eql (.t 109) (.c (.int .i64 0))⟩]) (.cond (.t 110) (.seq (.reg [⟨(some 8), none, .mv (.c .nilp)⟩,
 ⟨(some 9), none, .mv (.c (.int .i64 1))⟩]) .ret) .skip))
def c46_18 : AC := .seq a46_18 c46_19
theorem e46_18 : WC C call L c46_18 F S Q = WC C call L a46_18 F S (thenK (fun F S => WC C call L c46_19 F S Q) Q) := id rfl
def a46_16 : AC := (.seq (.reg [⟨(some 99), none, .mv (.t 3)⟩,
 ⟨(some 100), none, .fad 1 (.t 5)⟩,
 ⟨(some 101), none, .ld1 (.t 100)⟩,
 ⟨(some 102), none, .call 89 [(.t 99), (.t 101)]⟩,
 ⟨(some 98), none, .mv (.t 102)⟩,
 ⟨(some 103), none, .xt 0 (.t 98)⟩,
 ⟨(some 104), none, .xt 1 (.t 98)⟩,
 ⟨(some 17), none, .mv (.t 103)⟩,
 ⟨(some 18), none, .mv (.t 104)⟩]) c46_17)
def c46_16 : AC := .seq a46_16 c46_18
theorem e46_16 : WC C call L c46_16 F S Q = WC C call L a46_16 F S (thenK (fun F S => WC C call L c46_18 F S Q) Q) := id rfl
def a46_7 : AC := (.seq (.reg [⟨(some 67), none, .mv (.t 2)⟩,
 ⟨(some 68), none, .len 0 (.t 67)⟩,
 ⟨(some 69), none, .mv (.c (.int .i64 0))⟩]) c46_8)
def c46_7 : AC := .seq a46_7 c46_16
theorem e46_7 : WC C call L c46_7 F S Q = WC C call L a46_7 F S (thenK (fun F S => WC C call L c46_16 F S Q) Q) := id rfl
def a46_6 : AC := (.draw [(⟨(some 53), none, .mv (.t 12)⟩, [], [12]),
 (⟨(some 54), none, .mv (.t 12)⟩, [], [12]),
 (⟨(some 55), none, .fad 4 (.t 5)⟩, [], [5]),
 (⟨(some 56), none, .ld1 (.t 55)⟩, [2], [55]),
 (⟨(some 57), none, .call 90 [(.t 56)]⟩, [3, 2], [56]),
 (⟨(some 58), none, .fad 5 (.t 5)⟩, [], [5]),
 (⟨(some 59), none, .ld1 (.t 58)⟩, [5], [58]),
 (⟨(some 60), none, .call 90 [(.t 59)]⟩, [6, 5, 4, 3, 2], [59]),
 (⟨(some 61), none, .nck (.t 53)⟩, [0, 7, 6, 5, 4, 3, 2], [53]),
 (⟨(some 62), none, .fad 1 (.t 61)⟩, [8, 0, 7, 6, 5, 4, 3, 2], [61]),
 (⟨(some 63), none, .fad 4 (.t 62)⟩, [9, 8, 0, 7, 6, 5, 4, 3, 2], [62]),
 (⟨none, none, .st 1 (.t 63) (.t 57)⟩, [10, 9, 8, 0, 7, 6, 5, 4, 3, 2], [63, 57]),
 (⟨(some 64), none, .nck (.t 54)⟩, [1, 11, 10, 9, 8, 0, 7, 6, 5, 4, 3, 2], [54]),
 (⟨(some 65), none, .fad 1 (.t 64)⟩, [12, 1, 11, 10, 9, 8, 0, 7, 6, 5, 4, 3, 2], [64]),
 (⟨(some 66), none, .fad 5 (.t 65)⟩, [13, 12, 1, 11, 10, 9, 8, 0, 7, 6, 5, 4, 3, 2], [65]),
 (⟨none, none, .st 1 (.t 66) (.t 60)⟩, [14, 13, 12, 1, 11, 10, 9, 8, 0, 7, 6, 5, 4, 3, 2], [66, 60])])
def c46_6 : AC := .seq a46_6 c46_7
theorem e46_6 : WC C call L c46_6 F S Q = WC C call L a46_6 F S (thenK (fun F S => WC C call L c46_7 F S Q) Q) := id rfl
def a46_5 : AC := (.draw [(⟨(some 45), none, .mv (.t 0)⟩, [], [0]),
 (⟨(some 46), none, .ldn 6 (.t 5)⟩, [], [5]),
 (⟨(some 47), none, .mv (.t 3)⟩, [], [3]),
 (⟨(some 48), none, .call 90 [(.t 47)]⟩, [2], [47]),
 (⟨(some 49), none, .build [(.int .i64 0)] [(0, 1, (.c (.int .i64 (-1))))]⟩, [], []),
 (⟨(some 50), none, .mkif 167 (.t 49)⟩, [4], [49]),
 (⟨(some 51), none, .build [(.int .i64 0), (.int .i64 0), (.int .i64 0), (.int .i64 0), (.int .i64 0), .nils, .nils, .nils, .nils, .nils, .nilp, .nili, .nilf, (.int .i64 0)] [(0, 1, (.t 45)), (1, 6, (.t 46)), (8, 1, (.t 48)), (11, 1, (.t 50))]⟩, [0, 1, 3, 2, 5, 4], [45, 46, 48, 50]),
 (⟨(some 52), none, .box (.t 51)⟩, [6, 0, 1, 3, 2, 5, 4], [51]),
 (⟨(some 12), none, .mv (.t 52)⟩, [7, 6, 0, 1, 3, 2, 5, 4], [52])])
def c46_5 : AC := .seq a46_5 c46_6
theorem e46_5 : WC C call L c46_5 F S Q = WC C call L a46_5 F S (thenK (fun F S => WC C call L c46_6 F S Q) Q) := id rfl
def a46_4 : AC := (.seq (.reg [⟨(some 33), none, .mv (.t 2)⟩,
 ⟨(some 34), none, .len 0 (.t 33)⟩,
 ⟨(some 35), none, .fad 3 (.t 5)⟩,
 ⟨(some 36), none, .ld1 (.t 35)⟩,
 ⟨(some 37), none, .bin .neq (.t 34) (.t 36)⟩,
 ⟨(some 38), none, .mv (.t 37)⟩,
 ⟨(some 39), (some (38, false)), .mv (.t 2)⟩,
 ⟨(some 40), (some (38, false)), .ixs 1 (.t 39) (.c (.int .i64 0))⟩,
 ⟨(some 41), (some (38, false)), .ld1 (.t 40)⟩,
 ⟨(some 42), (some (38, false)), .len 0 (.t 41)⟩,
 ⟨(some 43), (some (38, false)), .bin .neq (.t 42) (.c (.int .i64 0))⟩,
 ⟨(some 44), none, .pick (.t 38) (.c (.bool true)) (.t 43)⟩]) (.cond (.t 44) (.seq (.reg [⟨(some 8), none, .mv (.c .nilp)⟩,
 ⟨(some 9), none, .mv (.c (.int .i64 31))⟩]) .ret) .skip))
def c46_4 : AC := .seq a46_4 c46_5
theorem e46_4 : WC C call L c46_4 F S Q = WC C call L a46_4 F S (thenK (fun F S => WC C call L c46_5 F S Q) Q) := id rfl
def a46_2 : AC := (.seq (.reg [⟨(some 26), none, .ldn 6 (.t 5)⟩,
 ⟨(some 27), none, .call 109 [(.t 26)]⟩,
 ⟨(some 25), none, .mv (.t 27)⟩,
 ⟨(some 28), none, .xt 0 (.t 25)⟩,
 ⟨(some 29), none, .xt 1 (.t 25)⟩,
 ⟨(some 10), none, .mv (.t 28)⟩,
 ⟨(some 11), none, .mv (.t 29)⟩]) c46_3)
def c46_2 : AC := .seq a46_2 c46_4
theorem e46_2 : WC C call L c46_2 F S Q = WC C call L a46_2 F S (thenK (fun F S => WC C call L c46_4 F S Q) Q) := id rfl
def a46_1 : AC := (.seq (.reg [⟨(some 19), none, .mv (.t 0)⟩,
 ⟨(some 20), none, .bin .lss (.t 19) (.c (.int .i64 1))⟩,
 ⟨(some 21), none, .mv (.t 20)⟩,
 ⟨(some 22), (some (21, false)), .mv (.t 0)⟩,
 ⟨(some 23), (some (21, false)), .bin .gtr (.t 22) (.c (.int .i64 3))⟩,
 ⟨(some 24), none, .pick (.t 21) (.c (.bool true)) (.t 23)⟩]) (.cond (.t 24) (.seq (.reg [⟨(some 8), none, .mv (.c .nilp)⟩,
 ⟨(some 9), none, .mv (.c (.int .i64 1))⟩]) .ret) .skip))
def c46_1 : AC := .seq a46_1 c46_2
theorem e46_1 : WC C call L c46_1 F S Q = WC C call L a46_1 F S (thenK (fun F S => WC C call L c46_2 F S Q) Q) := id rfl
def a46 : AC := (.reg [⟨(some 5), none, .box (.t 1)⟩,
 ⟨(some 8), none, .mv (.c .nilp)⟩,
 ⟨(some 9), none, .mv (.c (.int .i64 0))⟩])
def c46 : AC := .seq a46 c46_1
theorem e46 : WC C call L c46 F S Q = WC C call L a46 F S (thenK (fun F S => WC C call L c46_1 F S Q) Q) := id rfl
theorem fn46 : (ctxE Try.prog kpN env).fn 46 = some ⟨117, [.tmp 8, .tmp 9], c46, .plain⟩ := by kernel_rfl
def a47_4 : AC := (.cond (.t 30) (.seq (.reg [⟨(some 31), none, .build [(.int .i64 0), (.int .i64 0), (.int .i64 0), (.int .i64 0), (.int .i64 0), .nils, .nils, .nils, .nils, .nils, (.int .i64 0), (.int .i64 0), (.int .i64 0), (.int .i64 0), (.bool false), (.int .i64 0), (.bool false), (.bool false), (.int .i64 0)] []⟩,
 ⟨(some 32), none, .mv (.t 11)⟩,
 ⟨none, none, .st 19 (.t 8) (.t 31)⟩,
 ⟨(some 9), none, .mv (.t 32)⟩]) .ret) .skip)
def c47_4 : AC := a47_4
theorem e47_4 : WC C call L c47_4 F S Q = WC C call L a47_4 F S Q := id rfl
def a47_11 : AC := (.cond (.t 63) (.seq (.reg [⟨(some 64), none, .build [(.int .i64 0), (.int .i64 0), (.int .i64 0), (.int .i64 0), (.int .i64 0), .nils, .nils, .nils, .nils, .nils, (.int .i64 0), (.int .i64 0), (.int .i64 0), (.int .i64 0), (.bool false), (.int .i64 0), (.bool false), (.bool false), (.int .i64 0)] []⟩,
 ⟨(some 65), none, .mv (.t 14)⟩,
 ⟨none, none, .st 19 (.t 8) (.t 64)⟩,
 ⟨(some 9), none, .mv (.t 65)⟩]) .ret) .skip)
def c47_11 : AC := a47_11
theorem e47_11 : WC C call L c47_11 F S Q = WC C call L a47_11 F S Q := id rfl
def a47_13 : AC := (.reg [⟨(some 75), none, .mv (.t 15)⟩,
 ⟨(some 76), none, .mv (.t 12)⟩,
 ⟨(some 77), none, .bin .neq (.t 75) (.t 76)⟩])
def c47_13 : AC := .seq a47_13 (.cond (.t 77) (.seq (.reg [⟨(some 78), none, .build [(.int .i64 0), (.int .i64 0), (.int .i64 0), (.int .i64 0), (.int .i64 0), .nils, .nils, .nils, .nils, .nils, (.int .i64 0), (.int .i64 0), (.int .i64 0), (.int .i64 0), (.bool false), (.int .i64 0), (.bool false), (.bool false), (.int .i64 0)] []⟩,
 ⟨none, none, .st 19 (.t 8) (.t 78)⟩,
 ⟨(some 9), none, .mv (.c (.int .i64 32))⟩]) .ret) .skip)
theorem e47_13 : WC C call L c47_13 F S Q = WC C call L a47_13 F S (thenK (fun F S => WC C call L (.cond (.t 77) (.seq (.reg [⟨(some 78), none, .build [(.int .i64 0), (.int .i64 0), (.int .i64 0), (.int .i64 0), (.int .i64 0), .nils, .nils, .nils, .nils, .nils, (.int .i64 0), (.int .i64 0), (.int .i64 0), (.int .i64 0), (.bool false), (.int .i64 0), (.bool false), (.bool false), (.int .i64 0)] []⟩,
 ⟨none, none, .st 19 (.t 8) (.t 78)⟩,
 ⟨(some 9), none, .mv (.c (.int .i64 32))⟩]) .ret) .skip) F S Q) Q) := id rfl
def a47_12 : AC := (.draw [(⟨(some 67), none, .ldn 6 (.t 5)⟩, [], [5]),
 (⟨(some 68), none, .mv (.t 2)⟩, [], [2]),
 (⟨(some 69), none, .mv (.t 12)⟩, [], [12]),
 (⟨(some 70), none, .ixs 1 (.t 68) (.t 69)⟩, [1, 2], [68, 69]),
 (⟨(some 71), none, .ld1 (.t 70)⟩, [3, 1, 2], [70]),
 (⟨(some 72), none, .call 41 [(.t 67), (.c (.int .i64 0)), (.t 71)]⟩, [0, 4, 3, 1, 2], [67, 71]),
 (⟨(some 66), none, .mv (.t 72)⟩, [5, 0, 4, 3, 1, 2], [72]),
 (⟨(some 73), none, .xt 0 (.t 66)⟩, [6, 5, 0, 4, 3, 1, 2], [66]),
 (⟨(some 74), none, .xt 1 (.t 66)⟩, [6, 5, 0, 4, 3, 1, 2], [66]),
 (⟨(some 15), none, .mv (.t 73)⟩, [7, 6, 5, 0, 4, 3, 1, 2], [73]),
 (⟨(some 16), none, .mv (.t 74)⟩, [8, 9, 7, 6, 5, 0, 4, 3, 1, 2], [74])])
def c47_12 : AC := .seq a47_12 c47_13
theorem e47_12 : WC C call L c47_12 F S Q = WC C call L a47_12 F S (thenK (fun F S => WC C call L c47_13 F S Q) Q) := id rfl
def a47_10 : AC := (.seq (.reg [⟨(some 62), none, .mv (.t 14)⟩,
 ⟨(some 63), none, .bin .neq (.t 62) (.c (.int .i64 0))⟩]) c47_11)
def c47_10 : AC := .seq a47_10 c47_12
theorem e47_10 : WC C call L c47_10 F S Q = WC C call L a47_10 F S (thenK (fun F S => WC C call L c47_12 F S Q) Q) := id rfl
def a47_9 : AC := (.block 1 (.seq (.draw [(⟨(some 53), none, .mv (.t 2)⟩, [], [2]),
 (⟨(some 54), none, .mv (.t 12)⟩, [], [12]),
 (⟨(some 55), none, .ixs 1 (.t 53) (.t 54)⟩, [0, 1], [53, 54]),
 (⟨(some 56), none, .ld1 (.t 55)⟩, [2, 0, 1], [55]),
 (⟨(some 57), none, .fad 1 (.t 5)⟩, [], [5]),
 (⟨(some 58), none, .ld1 (.t 57)⟩, [4], [57]),
 (⟨(some 59), none, .call 61 [(.t 56), (.t 58)]⟩, [3, 2, 0, 1, 5, 4], [56, 58]),
 (⟨(some 52), none, .mv (.t 59)⟩, [6, 3, 2, 0, 1, 5, 4], [59]),
 (⟨(some 60), none, .xt 0 (.t 52)⟩, [7, 6, 3, 2, 0, 1, 5, 4], [52]),
 (⟨(some 61), none, .xt 1 (.t 52)⟩, [7, 6, 3, 2, 0, 1, 5, 4], [52]),
 (⟨(some 13), none, .mv (.t 60)⟩, [8, 7, 6, 3, 2, 0, 1, 5, 4], [60]),
 (⟨(some 14), none, .mv (.t 61)⟩, [9, 10, 8, 7, 6, 3, 2, 0, 1, 5, 4], [61])]) c47_10))
def c47_9 : AC := .seq a47_9 (.reg [⟨(some 50), none, .mv (.t 12)⟩,
 ⟨(some 51), none, .bin .add (.t 50) (.c (.int .i64 1))⟩,
 ⟨(some 12), none, .mv (.t 51)⟩])
theorem e47_9 : WC C call L c47_9 F S Q = WC C call L a47_9 F S (thenK (fun F S => WC C call L (.reg [⟨(some 50), none, .mv (.t 12)⟩,
 ⟨(some 51), none, .bin .add (.t 50) (.c (.int .i64 1))⟩,
 ⟨(some 12), none, .mv (.t 51)⟩]) F S Q) Q) := id rfl
def a47_8 : AC := (.seq (.reg [⟨(some 46), none, .mv (.t 12)⟩,
 ⟨(some 47), none, .mv (.t 2)⟩,
 ⟨(some 48), none, .len 0 (.t 47)⟩,
 ⟨(some 49), none, .bin .lss (.t 46) (.t 48)⟩]) (.cond (.t 49) .skip (.exit 0)))
def c47_8 : AC := .seq a47_8 c47_9
theorem e47_8 : WC C call L c47_8 F S Q = WC C call L a47_8 F S (thenK (fun F S => WC C call L c47_9 F S Q) Q) := id rfl
def a47_7 : AC := (.block 0 (.loop [0, 1, 2, 3, 5, 8, 9, 11, 12, 14, 15, 22, 30, 44, 49, 63, 77, 87, 92] c47_8))
def c47_7 : AC := a47_7
theorem e47_7 : WC C call L c47_7 F S Q = WC C call L a47_7 F S Q := id rfl
def a47_16 : AC := (.cond (.t 87) (.seq (.reg [⟨(some 88), none, .build [(.int .i64 0), (.int .i64 0), (.int .i64 0), (.int .i64 0), (.int .i64 0), .nils, .nils, .nils, .nils, .nils, (.int .i64 0), (.int .i64 0), (.int .i64 0), (.int .i64 0), (.bool false), (.int .i64 0), (.bool false), (.bool false), (.int .i64 0)] []⟩,
 ⟨(some 89), none, .mv (.t 11)⟩,
 ⟨none, none, .st 19 (.t 8) (.t 88)⟩,
 ⟨(some 9), none, .mv (.t 89)⟩]) .ret) .skip)
def c47_16 : AC := a47_16
theorem e47_16 : WC C call L c47_16 F S Q = WC C call L a47_16 F S Q := id rfl
def a47_18 : AC := (.draw [(⟨(some 94), none, .mv (.t 0)⟩, [], [0]),
 (⟨(some 95), none, .ldn 6 (.t 5)⟩, [], [5]),
 (⟨(some 96), none, .mv (.t 2)⟩, [], [2]),
 (⟨(some 97), none, .bslice 1 0 [] []⟩, [], []),
 (⟨(some 98), none, .mv (.t 3)⟩, [], [3]),
 (⟨(some 99), none, .app 1 8 (.t 97) (.t 98)⟩, [3, 4], [97, 98]),
 (⟨(some 100), none, .build [(.int .i64 0), (.int .i64 0), (.int .i64 0), (.int .i64 0), (.int .i64 0), .nils, .nils, .nils, .nils, .nils, (.int .i64 0), (.int .i64 0), (.int .i64 0), (.int .i64 0), (.bool false), (.int .i64 0), (.bool false), (.bool false), (.int .i64 0)] [(0, 1, (.t 94)), (1, 6, (.t 95)), (7, 1, (.t 96)), (8, 1, (.t 99))]⟩, [0, 1, 2, 5, 3, 4], [94, 95, 96, 99]),
 (⟨none, none, .st 19 (.t 8) (.t 100)⟩, [6, 0, 1, 2, 5, 3, 4], [8, 100]),
 (⟨(some 9), none, .mv (.c (.int .i64 0))⟩, [7, 6, 0, 1, 2, 5, 3, 4], [])])
def c47_18 : AC := .seq a47_18 .ret
theorem e47_18 : WC C call L c47_18 F S Q = WC C call L a47_18 F S (thenK (fun F S => WC C call L .ret F S Q) Q) := id rfl
def a47_17 : AC := (.seq (.reg [⟨(some 90), none, .mv (.t 3)⟩,
 ⟨(some 91), none, .len 0 (.t 90)⟩,
 ⟨(some 92), none, .bin .eql (.t 91) (.c (.int .i64 0))⟩]) (.cond (.t 92) (.seq (.reg [⟨(some 93), none, .build [(.int .i64 0), (.int .i64 0), (.int .i64 0), (.int .i64 0), (.int .i64 0), .nils, .nils, .nils, .nils, .nils, (.int .i64 0), (.int .i64 0), (.int .i64 0), (.int .i64 0), (.bool false), (.int .i64 0), (.bool false), (.bool false), (.int .i64 0)] []⟩,
 ⟨none, none, .st 19 (.t 8) (.t 93)⟩,
 ⟨(some 9), none, .mv (.c (.int .i64 1))⟩]) .ret) .skip))
def c47_17 : AC := .seq a47_17 c47_18
theorem e47_17 : WC C call L c47_17 F S Q = WC C call L a47_17 F S (thenK (fun F S => WC C call L c47_18 F S Q) Q) := id rfl
def a47_15 : AC := (.seq (.reg [⟨(some 86), none, .mv (.t 11)⟩,
 ⟨(some 87), none, .bin .neq (.t 86) (.c (.int .i64 0))⟩]) c47_16)
def c47_15 : AC := .seq a47_15 c47_17
theorem e47_15 : WC C call L c47_15 F S Q = WC C call L a47_15 F S (thenK (fun F S => WC C call L c47_17 F S Q) Q) := id rfl
def a47_14 : AC := (.reg [⟨(some 80), none, .mv (.t 3)⟩,
 ⟨(some 81), none, .fad 1 (.t 5)⟩,
 ⟨(some 82), none, .ld1 (.t 81)⟩,
 ⟨(some 83), none, .call 61 [(.t 80), (.t 82)]⟩,
 ⟨(some 79), none, .mv (.t 83)⟩,
 ⟨(some 84), none, .xt 0 (.t 79)⟩,
 ⟨(some 85), none, .xt 1 (.t 79)⟩,
 ⟨(some 11), none, .mv (.t 85)⟩])
def c47_14 : AC := .seq a47_14 c47_15
theorem e47_14 : WC C call L c47_14 F S Q = WC C call L a47_14 F S (thenK (fun F S => WC C call L c47_15 F S Q) Q) := id rfl
def a47_6 : AC := (.seq (.reg [⟨(some 12), none, .mv (.c (.int .i64 0))⟩]) c47_7)
def c47_6 : AC := .seq a47_6 c47_14
theorem e47_6 : WC C call L c47_6 F S Q = WC C call L a47_6 F S (thenK (fun F S => WC C call L c47_14 F S Q) Q) := id rfl
def a47_5 : AC := (.seq (.reg [⟨(some 33), none, .mv (.t 2)⟩,
 ⟨(some 34), none, .len 0 (.t 33)⟩,
 ⟨(some 35), none, .fad 3 (.t 5)⟩,
 ⟨(some 36), none, .ld1 (.t 35)⟩,
 ⟨(some 37), none, .bin .neq (.t 34) (.t 36)⟩,
 ⟨(some 38), none, .mv (.t 37)⟩,
 ⟨(some 39), (some (38, false)), .mv (.t 2)⟩,
 ⟨(some 40), (some (38, false)), .ixs 1 (.t 39) (.c (.int .i64 0))⟩,
 ⟨(some 41), (some (38, false)), .ld1 (.t 40)⟩,
 ⟨(some 42), (some (38, false)), .len 0 (.t 41)⟩,
 ⟨(some 43), (some (38, false)), .bin .gtr (.t 42) (.c (.int .i64 0))⟩,
 ⟨(some 44), none, .pick (.t 38) (.c (.bool true)) (.t 43)⟩]) (.cond (.t 44) (.seq (.reg [⟨(some 45), none, .build [(.int .i64 0), (.int .i64 0), (.int .i64 0), (.int .i64 0), (.int .i64 0), .nils, .nils, .nils, .nils, .nils, (.int .i64 0), (.int .i64 0), (.int .i64 0), (.int .i64 0), (.bool false), (.int .i64 0), (.bool false), (.bool false), (.int .i64 0)] []⟩,
 ⟨none, none, .st 19 (.t 8) (.t 45)⟩,
 ⟨(some 9), none, .mv (.c (.int .i64 31))⟩]) .ret) .skip))
def c47_5 : AC := .seq a47_5 c47_6
theorem e47_5 : WC C call L c47_5 F S Q = WC C call L a47_5 F S (thenK (fun F S => WC C call L c47_6 F S Q) Q) := id rfl
def a47_3 : AC := (.seq (.reg [⟨(some 29), none, .mv (.t 11)⟩,
 ⟨(some 30), none, .bin .neq (.t 29) (.c (.int .i64 0))⟩]) c47_4)
def c47_3 : AC := .seq a47_3 c47_5
theorem e47_3 : WC C call L c47_3 F S Q = WC C call L a47_3 F S (thenK (fun F S => WC C call L c47_5 F S Q) Q) := id rfl
def a47_2 : AC := (.reg [⟨(some 25), none, .ldn 6 (.t 5)⟩,
 ⟨(some 26), none, .call 108 [(.t 25)]⟩,
 ⟨(some 24), none, .mv (.t 26)⟩,
 ⟨(some 27), none, .xt 0 (.t 24)⟩,
 ⟨(some 28), none, .xt 1 (.t 24)⟩,
 ⟨(some 10), none, .mv (.t 27)⟩,
 ⟨(some 11), none, .mv (.t 28)⟩])
def c47_2 : AC := .seq a47_2 c47_3
theorem e47_2 : WC C call L c47_2 F S Q = WC C call L a47_2 F S (thenK (fun F S => WC C call L c47_3 F S Q) Q) := id rfl
def a47_1 : AC := (.seq (.reg [⟨(some 17), none, .mv (.t 0)⟩,
 ⟨(some 18), none, .bin .lss (.t 17) (.c (.int .i64 1))⟩,
 ⟨(some 19), none, .mv (.t 18)⟩,
 ⟨(some 20), (some (19, false)), .mv (.t 0)⟩,
 ⟨(some 21), (some (19, false)), .bin .gtr (.t 20) (.c (.int .i64 3))⟩,
 ⟨(some 22), none, .pick (.t 19) (.c (.bool true)) (.t 21)⟩]) (.cond (.t 22) (.seq (.reg [⟨(some 23), none, .build [(.int .i64 0), (.int .i64 0), (.int .i64 0), (.int .i64 0), (.int .i64 0), .nils, .nils, .nils, .nils, .nils, (.int .i64 0), (.int .i64 0), (.int .i64 0), (.int .i64 0), (.bool false), (.int .i64 0), (.bool false), (.bool false), (.int .i64 0)] []⟩,
 ⟨none, none, .st 19 (.t 8) (.t 23)⟩,
 ⟨(some 9), none, .mv (.c (.int .i64 1))⟩]) .ret) .skip))
def c47_1 : AC := .seq a47_1 c47_2
theorem e47_1 : WC C call L c47_1 F S Q = WC C call L a47_1 F S (thenK (fun F S => WC C call L c47_2 F S Q) Q) := id rfl
def a47 : AC := (.reg [⟨(some 5), none, .box (.t 1)⟩,
 ⟨(some 8), none, .alloc [(.int .i64 0), (.int .i64 0), (.int .i64 0), (.int .i64 0), (.int .i64 0), .nils, .nils, .nils, .nils, .nils, (.int .i64 0), (.int .i64 0), (.int .i64 0), (.int .i64 0), (.bool false), (.int .i64 0), (.bool false), (.bool false), (.int .i64 0)]⟩,
 ⟨(some 9), none, .mv (.c (.int .i64 0))⟩])
def c47 : AC := .seq a47 c47_1
theorem e47 : WC C call L c47 F S Q = WC C call L a47 F S (thenK (fun F S => WC C call L c47_1 F S Q) Q) := id rfl
theorem fn47 : (ctxE Try.prog kpN env).fn 47 = some ⟨101, [.cell 8 (some 19), .tmp 9], c47, .plain⟩ := by kernel_rfl
def a48 : AC := (.reg [⟨(some 2), none, .mv (.c (.int .i64 0))⟩])
def c48 : AC := .seq a48 (.seq (.reg [⟨(some 3), none, .mv (.t 0)⟩,
 ⟨(some 2), none, .mv (.t 3)⟩]) .ret)
theorem e48 : WC C call L c48 F S Q = WC C call L a48 F S (thenK (fun F S => WC C call L (.seq (.reg [⟨(some 3), none, .mv (.t 0)⟩,
 ⟨(some 2), none, .mv (.t 3)⟩]) .ret) F S Q) Q) := id rfl
theorem fn48 : (ctxE Try.prog kpN env).fn 48 = some ⟨4, [.tmp 2], c48, .plain⟩ := by kernel_rfl
def a50_5 : AC := (.cond (.t 22) (.seq (.reg [⟨(some 23), none, .mv (.t 0)⟩,
 ⟨(some 24), none, .nck (.t 23)⟩,
 ⟨(some 25), none, .fad 8 (.t 24)⟩,
 ⟨(some 26), none, .ld1 (.t 25)⟩,
 ⟨(some 27), none, .call 90 [(.t 26)]⟩,
 ⟨(some 2), none, .mv (.t 27)⟩,
 ⟨(some 3), none, .mv (.c (.bool true))⟩]) .ret) .skip)
def c50_5 : AC := a50_5
theorem e50_5 : WC C call L c50_5 F S Q = WC C call L a50_5 F S Q := id rfl
def a50_7 : AC := (.draw [(⟨(some 35), none, .mv (.t 0)⟩, [], [0]),
 (⟨(some 36), none, .nck (.t 35)⟩, [0], [35]),
 (⟨(some 37), none, .fad 7 (.t 36)⟩, [1, 0], [36]),
 (⟨(some 38), none, .ld1 (.t 37)⟩, [2, 1, 0], [37]),
 (⟨(some 39), none, .mv (.t 6)⟩, [], [6]),
 (⟨(some 40), none, .ixs 1 (.t 38) (.t 39)⟩, [3, 2, 1, 0, 4], [38, 39]),
 (⟨(some 41), none, .ld1 (.t 40)⟩, [5, 3, 2, 1, 0, 4], [40]),
 (⟨(some 42), none, .mv (.t 0)⟩, [], [0]),
 (⟨(some 43), none, .nck (.t 42)⟩, [7], [42]),
 (⟨(some 44), none, .fad 8 (.t 43)⟩, [8, 7], [43]),
 (⟨(some 45), none, .ld1 (.t 44)⟩, [9, 8, 7], [44]),
 (⟨(some 46), none, .fad 0 (.t 4)⟩, [], [4]),
 (⟨(some 47), none, .ld1 (.t 46)⟩, [11], [46]),
 (⟨(some 48), none, .slc 1 (.t 45) (some (.t 47)) none none⟩, [10, 9, 8, 7, 12, 11], [45, 47]),
 (⟨(some 49), none, .bslice 1 2 [.nils, .nils] [(0, 1, (.t 41)), (1, 1, (.t 48))]⟩, [6, 5, 3, 2, 1, 0, 4, 13, 10, 9, 8, 7, 12, 11], [41, 48]),
 (⟨(some 50), none, .call 113 [(.t 49)]⟩, [14, 6, 5, 3, 2, 1, 0, 4, 13, 10, 9, 8, 7, 12, 11], [49]),
 (⟨(some 2), none, .mv (.t 50)⟩, [15, 14, 6, 5, 3, 2, 1, 0, 4, 13, 10, 9, 8, 7, 12, 11], [50]),
 (⟨(some 3), none, .mv (.c (.bool true))⟩, [16, 15, 14, 6, 5, 3, 2, 1, 0, 4, 13, 10, 9, 8, 7, 12, 11], [])])
def c50_7 : AC := .seq a50_7 .ret
theorem e50_7 : WC C call L c50_7 F S Q = WC C call L a50_7 F S (thenK (fun F S => WC C call L .ret F S Q) Q) := id rfl
def a50_6 : AC := (.reg [⟨(some 29), none, .mv (.t 0)⟩,
 ⟨(some 30), none, .fad 0 (.t 4)⟩,
 ⟨(some 31), none, .ld1 (.t 30)⟩,
 ⟨(some 32), none, .call 112 [(.t 29), (.t 31)]⟩,
 ⟨(some 28), none, .mv (.t 32)⟩,
 ⟨(some 33), none, .xt 0 (.t 28)⟩,
 ⟨(some 34), none, .xt 1 (.t 28)⟩,
 ⟨(some 6), none, .mv (.t 33)⟩,
 ⟨(some 7), none, .mv (.t 34)⟩])
def c50_6 : AC := .seq a50_6 c50_7
theorem e50_6 : WC C call L c50_6 F S Q = WC C call L a50_6 F S (thenK (fun F S => WC C call L c50_7 F S Q) Q) := id rfl
def a50_4 : AC := (.seq (.reg [⟨(some 20), none, .fad 0 (.t 4)⟩,
 ⟨(some 21), none, .ld1 (.t 20)⟩,
 ⟨(some 22), none, .bin .lss (.t 21) (.c (.int .i64 0))⟩]) c50_5)
def c50_4 : AC := .seq a50_4 c50_6
theorem e50_4 : WC C call L c50_4 F S Q = WC C call L a50_4 F S (thenK (fun F S => WC C call L c50_6 F S Q) Q) := id rfl
def a50_3 : AC := (.seq (.reg [⟨(some 18), none, .mv (.t 5)⟩,
 ⟨(some 19), none, .un .not (.t 18)⟩]) (.cond (.t 19) (.seq (.reg [⟨(some 2), none, .mv (.c .nils)⟩,
 ⟨(some 3), none, .mv (.c (.bool false))⟩]) .ret) .skip))
def c50_3 : AC := .seq a50_3 c50_4
theorem e50_3 : WC C call L c50_3 F S Q = WC C call L a50_3 F S (thenK (fun F S => WC C call L c50_4 F S Q) Q) := id rfl
def a50_2 : AC := (.reg [⟨(some 11), none, .mv (.t 0)⟩,
 ⟨(some 12), none, .nck (.t 11)⟩,
 ⟨(some 13), none, .fad 11 (.t 12)⟩,
 ⟨(some 14), none, .ld1 (.t 13)⟩,
 ⟨(some 15), none, .tas 167 (.agg [(.int .i64 0)]) true (.t 14)⟩,
 ⟨(some 10), none, .mv (.t 15)⟩,
 ⟨(some 16), none, .xt 0 (.t 10)⟩,
 ⟨(some 17), none, .xt 1 (.t 10)⟩,
 ⟨(some 4), none, .alloc [(.int .i64 0)]⟩,
 ⟨none, none, .st 1 (.t 4) (.t 16)⟩,
 ⟨(some 5), none, .mv (.t 17)⟩])
def c50_2 : AC := .seq a50_2 c50_3
theorem e50_2 : WC C call L c50_2 F S Q = WC C call L a50_2 F S (thenK (fun F S => WC C call L c50_3 F S Q) Q) := id rfl
def a50_1 : AC := (.seq (.reg [⟨(some 8), none, .mv (.t 0)⟩,
 ⟨(some 9), none, .eq false .ptr (.t 8) (.c .nilp)⟩]) (.cond (.t 9) (.seq (.reg [⟨(some 2), none, .mv (.c .nils)⟩,
 ⟨(some 3), none, .mv (.c (.bool false))⟩]) .ret) .skip))
def c50_1 : AC := .seq a50_1 c50_2
theorem e50_1 : WC C call L c50_1 F S Q = WC C call L a50_1 F S (thenK (fun F S => WC C call L c50_2 F S Q) Q) := id rfl
def a50 : AC := (.reg [⟨(some 2), none, .mv (.c .nils)⟩,
 ⟨(some 3), none, .mv (.c (.bool false))⟩])
def c50 : AC := .seq a50 c50_1
theorem e50 : WC C call L c50 F S Q = WC C call L a50 F S (thenK (fun F S => WC C call L c50_1 F S Q) Q) := id rfl
theorem fn50 : (ctxE Try.prog kpN env).fn 50 = some ⟨51, [.tmp 2, .tmp 3], c50, .plain⟩ := by kernel_rfl
def a51_2 : AC := (.cond (.t 8) (.seq (.reg [⟨(some 9), none, .fad 8 (.t 1)⟩,
 ⟨(some 10), none, .ld1 (.t 9)⟩,
 ⟨(some 2), none, .mv (.t 10)⟩,
 ⟨(some 3), none, .mv (.c (.bool true))⟩]) .ret) .skip)
def c51_2 : AC := a51_2
theorem e51_2 : WC C call L c51_2 F S Q = WC C call L a51_2 F S Q := id rfl
def a51_6 : AC := (.reg [⟨(some 21), none, .ldn 19 (.t 1)⟩,
 ⟨(some 22), none, .mv (.t 4)⟩,
 ⟨(some 23), none, .call 115 [(.t 21), (.t 22)]⟩,
 ⟨(some 2), none, .mv (.t 23)⟩,
 ⟨(some 3), none, .mv (.c (.bool true))⟩])
def c51_6 : AC := .seq a51_6 .ret
theorem e51_6 : WC C call L c51_6 F S Q = WC C call L a51_6 F S (thenK (fun F S => WC C call L .ret F S Q) Q) := id rfl
def a51_5 : AC := (.seq (.reg [⟨(some 19), none, .mv (.t 5)⟩,
 ⟨(some 20), none, .un .not (.t 19)⟩]) (.cond (.t 20) (.seq (.reg [⟨(some 2), none, .mv (.c .nils)⟩,
 ⟨(some 3), none, .mv (.c (.bool false))⟩]) .ret) .skip))
def c51_5 : AC := .seq a51_5 c51_6
theorem e51_5 : WC C call L c51_5 F S Q = WC C call L a51_5 F S (thenK (fun F S => WC C call L c51_6 F S Q) Q) := id rfl
def a51_4 : AC := (.reg [⟨(some 14), none, .fad 10 (.t 1)⟩,
 ⟨(some 15), none, .ldn 6 (.t 14)⟩,
 ⟨(some 16), none, .call 114 [(.t 15)]⟩,
 ⟨(some 13), none, .mv (.t 16)⟩,
 ⟨(some 17), none, .xt 0 (.t 13)⟩,
 ⟨(some 18), none, .xt 1 (.t 13)⟩,
 ⟨(some 4), none, .mv (.t 17)⟩,
 ⟨(some 5), none, .mv (.t 18)⟩])
def c51_4 : AC := .seq a51_4 c51_5
theorem e51_4 : WC C call L c51_4 F S Q = WC C call L a51_4 F S (thenK (fun F S => WC C call L c51_5 F S Q) Q) := id rfl
def a51_3 : AC := (.seq (.reg [⟨(some 11), none, .fad 17 (.t 1)⟩,
 ⟨(some 12), none, .ld1 (.t 11)⟩]) (.cond (.t 12) (.seq (.reg [⟨(some 2), none, .mv (.c .nils)⟩,
 ⟨(some 3), none, .mv (.c (.bool false))⟩]) .ret) .skip))
def c51_3 : AC := .seq a51_3 c51_4
theorem e51_3 : WC C call L c51_3 F S Q = WC C call L a51_3 F S (thenK (fun F S => WC C call L c51_4 F S Q) Q) := id rfl
def a51_1 : AC := (.seq (.reg [⟨(some 6), none, .fad 16 (.t 1)⟩,
 ⟨(some 7), none, .ld1 (.t 6)⟩,
 ⟨(some 8), none, .un .not (.t 7)⟩]) c51_2)
def c51_1 : AC := .seq a51_1 c51_3
theorem e51_1 : WC C call L c51_1 F S Q = WC C call L a51_1 F S (thenK (fun F S => WC C call L c51_3 F S Q) Q) := id rfl
def a51 : AC := (.reg [⟨(some 1), none, .box (.t 0)⟩,
 ⟨(some 2), none, .mv (.c .nils)⟩,
 ⟨(some 3), none, .mv (.c (.bool false))⟩])
def c51 : AC := .seq a51 c51_1
theorem e51 : WC C call L c51 F S Q = WC C call L a51 F S (thenK (fun F S => WC C call L c51_1 F S Q) Q) := id rfl
theorem fn51 : (ctxE Try.prog kpN env).fn 51 = some ⟨24, [.tmp 2, .tmp 3], c51, .plain⟩ := by kernel_rfl
def a52_8 : AC := (.draw [(⟨(some 70), none, .mv (.t 7)⟩, [], [7]),
 (⟨(some 71), none, .mv (.t 0)⟩, [], [0]),
 (⟨(some 72), none, .nck (.t 71)⟩, [1], [71]),
 (⟨(some 73), none, .fad 7 (.t 72)⟩, [2, 1], [72]),
 (⟨(some 74), none, .ld1 (.t 73)⟩, [3, 2, 1], [73]),
 (⟨(some 75), none, .mv (.t 5)⟩, [], [5]),
 (⟨(some 76), none, .ixs 1 (.t 74) (.t 75)⟩, [4, 3, 2, 1, 5], [74, 75]),
 (⟨(some 77), none, .ld1 (.t 76)⟩, [6, 4, 3, 2, 1, 5], [76]),
 (⟨(some 78), none, .mv (.t 0)⟩, [], [0]),
 (⟨(some 79), none, .nck (.t 78)⟩, [8], [78]),
 (⟨(some 80), none, .fad 8 (.t 79)⟩, [9, 8], [79]),
 (⟨(some 81), none, .ld1 (.t 80)⟩, [10, 9, 8], [80]),
 (⟨(some 82), none, .mv (.t 4)⟩, [], [4]),
 (⟨(some 83), none, .mv (.t 4)⟩, [], [4]),
 (⟨(some 84), none, .bin .add (.t 83) (.c (.int .i64 1))⟩, [13], [83]),
 (⟨(some 85), none, .slc 1 (.t 81) (some (.t 82)) (some (.t 84)) none⟩, [11, 10, 9, 8, 12, 14, 13], [81, 82, 84]),
 (⟨(some 86), none, .bslice 1 2 [.nils, .nils] [(0, 1, (.t 77)), (1, 1, (.t 85))]⟩, [7, 6, 4, 3, 2, 1, 5, 15, 11, 10, 9, 8, 12, 14, 13], [77, 85]),
 (⟨(some 87), none, .call 113 [(.t 86)]⟩, [16, 7, 6, 4, 3, 2, 1, 5, 15, 11, 10, 9, 8, 12, 14, 13], [86]),
 (⟨(some 88), none, .mv (.t 9)⟩, [], [9]),
 (⟨(some 89), none, .call 90 [(.t 88)]⟩, [18, 17, 16, 7, 6, 4, 3, 2, 1, 5, 15, 11, 10, 9, 8, 12, 14, 13], [88]),
 (⟨(some 90), none, .mv (.t 10)⟩, [], [10]),
 (⟨(some 91), none, .call 90 [(.t 90)]⟩, [20, 19, 18, 17, 16, 7, 6, 4, 3, 2, 1, 5, 15, 11, 10, 9, 8, 12, 14, 13], [90]),
 (⟨(some 92), none, .mv (.t 0)⟩, [], [0]),
 (⟨(some 93), none, .nck (.t 92)⟩, [22], [92]),
 (⟨(some 94), none, .fad 9 (.t 93)⟩, [23, 22], [93]),
 (⟨(some 95), none, .ld1 (.t 94)⟩, [24, 23, 22], [94]),
 (⟨(some 96), none, .mv (.t 4)⟩, [], [4]),
 (⟨(some 97), none, .ixs 1 (.t 95) (.t 96)⟩, [25, 24, 23, 22, 26], [95, 96]),
 (⟨(some 98), none, .ld1 (.t 97)⟩, [27, 25, 24, 23, 22, 26], [97]),
 (⟨(some 99), none, .mv (.t 0)⟩, [], [0]),
 (⟨(some 100), none, .mv (.t 9)⟩, [], [9]),
 (⟨(some 101), none, .len 0 (.t 100)⟩, [30], [100]),
 (⟨(some 102), none, .call 117 [(.t 99), (.t 101)]⟩, [29, 31, 30, 21, 20, 19, 18, 17, 16, 7, 6, 4, 3, 2, 1, 5, 15, 11, 10, 9, 8, 12, 14, 13], [99, 101]),
 (⟨(some 103), none, .call 116 [(.t 98), (.t 102)]⟩, [28, 27, 25, 24, 23, 22, 26, 32, 29, 31, 30, 21, 20, 19, 18, 17, 16, 7, 6, 4, 3, 2, 1, 5, 15, 11, 10, 9, 8, 12, 14, 13], [98, 102]),
 (⟨(some 104), none, .build [(.int .i64 0), .nils, .nils, .nils, .nils] [(0, 1, (.t 70)), (1, 1, (.t 87)), (2, 1, (.t 89)), (3, 1, (.t 91)), (4, 1, (.t 103))]⟩, [0, 33, 28, 27, 25, 24, 23, 22, 26, 32, 29, 31, 30, 21, 20, 19, 18, 17, 16, 7, 6, 4, 3, 2, 1, 5, 15, 11, 10, 9, 8, 12, 14, 13], [70, 87, 89, 91, 103]),
 (⟨none, none, .st 5 (.t 2) (.t 104)⟩, [34, 0, 33, 28, 27, 25, 24, 23, 22, 26, 32, 29, 31, 30, 21, 20, 19, 18, 17, 16, 7, 6, 4, 3, 2, 1, 5, 15, 11, 10, 9, 8, 12, 14, 13], [2, 104]),
 (⟨(some 3), none, .mv (.c (.bool true))⟩, [35, 34, 0, 33, 28, 27, 25, 24, 23, 22, 26, 32, 29, 31, 30, 21, 20, 19, 18, 17, 16, 7, 6, 4, 3, 2, 1, 5, 15, 11, 10, 9, 8, 12, 14, 13], [])])
def c52_8 : AC := .seq a52_8 .ret
theorem e52_8 : WC C call L c52_8 F S Q = WC C call L a52_8 F S (thenK (fun F S => WC C call L .ret F S Q) Q) := id rfl
def a52_7 : AC := (.seq (.reg [⟨(some 60), none, .mv (.t 4)⟩,
 ⟨(some 61), none, .bin .add (.t 60) (.c (.int .i64 1))⟩,
 ⟨(some 62), none, .mv (.t 0)⟩,
 ⟨(some 63), none, .nck (.t 62)⟩,
 ⟨(some 64), none, .fad 9 (.t 63)⟩,
 ⟨(some 65), none, .ld1 (.t 64)⟩,
 ⟨(some 66), none, .len 0 (.t 65)⟩,
 ⟨(some 67), none, .bin .sub (.t 66) (.c (.int .i64 1))⟩,
 ⟨(some 68), none, .bin .eql (.t 61) (.t 67)⟩]) (.cond (.t 68) (.reg [⟨(some 69), none, .mv (.t 8)⟩,
 ⟨(some 10), none, .mv (.t 69)⟩]) .skip))
def c52_7 : AC := .seq a52_7 c52_8
theorem e52_7 : WC C call L c52_7 F S Q = WC C call L a52_7 F S (thenK (fun F S => WC C call L c52_8 F S Q) Q) := id rfl
def a52_6 : AC := (.reg [⟨(some 52), none, .mv (.t 0)⟩,
 ⟨(some 53), none, .nck (.t 52)⟩,
 ⟨(some 54), none, .fad 9 (.t 53)⟩,
 ⟨(some 55), none, .ld1 (.t 54)⟩,
 ⟨(some 56), none, .mv (.t 4)⟩,
 ⟨(some 57), none, .bin .add (.t 56) (.c (.int .i64 1))⟩,
 ⟨(some 58), none, .ixs 1 (.t 55) (.t 57)⟩,
 ⟨(some 59), none, .ld1 (.t 58)⟩,
 ⟨(some 10), none, .mv (.t 59)⟩])
def c52_6 : AC := .seq a52_6 c52_7
theorem e52_6 : WC C call L c52_6 F S Q = WC C call L a52_6 F S (thenK (fun F S => WC C call L c52_7 F S Q) Q) := id rfl
def a52_5 : AC := (.reg [⟨(some 45), none, .mv (.t 0)⟩,
 ⟨(some 46), none, .nck (.t 45)⟩,
 ⟨(some 47), none, .fad 8 (.t 46)⟩,
 ⟨(some 48), none, .ld1 (.t 47)⟩,
 ⟨(some 49), none, .mv (.t 4)⟩,
 ⟨(some 50), none, .bin .add (.t 49) (.c (.int .i64 1))⟩,
 ⟨(some 51), none, .slc 1 (.t 48) (some (.t 50)) none none⟩,
 ⟨(some 9), none, .mv (.t 51)⟩])
def c52_5 : AC := .seq a52_5 c52_6
theorem e52_5 : WC C call L c52_5 F S Q = WC C call L a52_5 F S (thenK (fun F S => WC C call L c52_6 F S Q) Q) := id rfl
def a52_4 : AC := (.reg [⟨(some 39), none, .mv (.t 0)⟩,
 ⟨(some 40), none, .mv (.t 4)⟩,
 ⟨(some 41), none, .bin .add (.t 40) (.c (.int .i64 1))⟩,
 ⟨(some 42), none, .call 112 [(.t 39), (.t 41)]⟩,
 ⟨(some 38), none, .mv (.t 42)⟩,
 ⟨(some 43), none, .xt 0 (.t 38)⟩,
 ⟨(some 44), none, .xt 1 (.t 38)⟩,
 ⟨(some 7), none, .mv (.t 43)⟩,
 ⟨(some 8), none, .mv (.t 44)⟩])
def c52_4 : AC := .seq a52_4 c52_5
theorem e52_4 : WC C call L c52_4 F S Q = WC C call L a52_4 F S (thenK (fun F S => WC C call L c52_5 F S Q) Q) := id rfl
def a52_3 : AC := (.reg [⟨(some 33), none, .mv (.t 0)⟩,
 ⟨(some 34), none, .mv (.t 4)⟩,
 ⟨(some 35), none, .call 112 [(.t 33), (.t 34)]⟩,
 ⟨(some 32), none, .mv (.t 35)⟩,
 ⟨(some 36), none, .xt 0 (.t 32)⟩,
 ⟨(some 37), none, .xt 1 (.t 32)⟩,
 ⟨(some 5), none, .mv (.t 36)⟩,
 ⟨(some 6), none, .mv (.t 37)⟩])
def c52_3 : AC := .seq a52_3 c52_4
theorem e52_3 : WC C call L c52_3 F S Q = WC C call L a52_3 F S (thenK (fun F S => WC C call L c52_4 F S Q) Q) := id rfl
def a52_2 : AC := (.reg [⟨(some 26), none, .mv (.t 0)⟩,
 ⟨(some 27), none, .nck (.t 26)⟩,
 ⟨(some 28), none, .fad 11 (.t 27)⟩,
 ⟨(some 29), none, .ld1 (.t 28)⟩,
 ⟨(some 30), none, .tas 180 (.agg [(.bool false), (.int .i64 0)]) false (.t 29)⟩,
 ⟨(some 31), none, .fld 1 none (.t 30)⟩,
 ⟨(some 4), none, .mv (.t 31)⟩])
def c52_2 : AC := .seq a52_2 c52_3
theorem e52_2 : WC C call L c52_2 F S Q = WC C call L a52_2 F S (thenK (fun F S => WC C call L c52_3 F S Q) Q) := id rfl
def a52_1 : AC := (.seq (.reg [⟨(some 11), none, .mv (.t 0)⟩,
 ⟨(some 12), none, .eq false .ptr (.t 11) (.c .nilp)⟩,
 ⟨(some 13), none, .mv (.t 12)⟩,
 ⟨(some 14), (some (13, false)), .mv (.t 0)⟩,
 ⟨(some 15), (some (13, false)), .nck (.t 14)⟩,
 ⟨(some 16), (some (13, false)), .fad 11 (.t 15)⟩,
 ⟨(some 17), (some (13, false)), .ld1 (.t 16)⟩,
 ⟨(some 18), (some (13, false)), .inv "tutor/rivest.over" (.t 17) []⟩,
 ⟨(some 19), (some (13, false)), .un .not (.t 18)⟩,
 ⟨(some 20), none, .pick (.t 13) (.c (.bool true)) (.t 19)⟩,
 ⟨(some 21), none, .mv (.t 20)⟩,
 ⟨(some 22), (some (21, false)), .mv (.t 0)⟩,
 ⟨(some 23), (some (21, false)), .call 55 [(.t 22)]⟩,
 ⟨(some 24), none, .pick (.t 21) (.c (.bool true)) (.t 23)⟩]) (.cond (.t 24) (.seq (.reg [⟨(some 25), none, .build [(.int .i64 0), .nils, .nils, .nils, .nils] []⟩,
 ⟨none, none, .st 5 (.t 2) (.t 25)⟩,
 ⟨(some 3), none, .mv (.c (.bool false))⟩]) .ret) .skip))
def c52_1 : AC := .seq a52_1 c52_2
theorem e52_1 : WC C call L c52_1 F S Q = WC C call L a52_1 F S (thenK (fun F S => WC C call L c52_2 F S Q) Q) := id rfl
def a52 : AC := (.reg [⟨(some 2), none, .alloc [(.int .i64 0), .nils, .nils, .nils, .nils]⟩,
 ⟨(some 3), none, .mv (.c (.bool false))⟩])
def c52 : AC := .seq a52 c52_1
theorem e52 : WC C call L c52 F S Q = WC C call L a52 F S (thenK (fun F S => WC C call L c52_1 F S Q) Q) := id rfl
theorem fn52 : (ctxE Try.prog kpN env).fn 52 = some ⟨105, [.cell 2 (some 5), .tmp 3], c52, .plain⟩ := by kernel_rfl
def a53_9 : AC := (.cond (.t 65) (.reg [⟨(some 66), none, .ldn 19 (.t 1)⟩,
 ⟨(some 67), none, .mv (.t 6)⟩,
 ⟨(some 68), none, .bin .add (.t 67) (.c (.int .i64 1))⟩,
 ⟨(some 69), none, .call 118 [(.t 66), (.t 68)]⟩,
 ⟨(some 12), none, .mv (.t 69)⟩]) .skip)
def c53_9 : AC := a53_9
theorem e53_9 : WC C call L c53_9 F S Q = WC C call L a53_9 F S Q := id rfl
def a53_10 : AC := (.draw [(⟨(some 70), none, .mv (.t 9)⟩, [], [9]),
 (⟨(some 71), none, .fad 7 (.t 1)⟩, [], [1]),
 (⟨(some 72), none, .ld1 (.t 71)⟩, [1], [71]),
 (⟨(some 73), none, .mv (.t 7)⟩, [], [7]),
 (⟨(some 74), none, .ixs 1 (.t 72) (.t 73)⟩, [2, 1, 3], [72, 73]),
 (⟨(some 75), none, .ld1 (.t 74)⟩, [4, 2, 1, 3], [74]),
 (⟨(some 76), none, .fad 8 (.t 1)⟩, [], [1]),
 (⟨(some 77), none, .ld1 (.t 76)⟩, [6], [76]),
 (⟨(some 78), none, .mv (.t 6)⟩, [], [6]),
 (⟨(some 79), none, .mv (.t 6)⟩, [], [6]),
 (⟨(some 80), none, .bin .add (.t 79) (.c (.int .i64 1))⟩, [9], [79]),
 (⟨(some 81), none, .slc 1 (.t 77) (some (.t 78)) (some (.t 80)) none⟩, [7, 6, 8, 10, 9], [77, 78, 80]),
 (⟨(some 82), none, .call 97 [(.t 75), (.t 81)]⟩, [5, 4, 2, 1, 3, 11, 7, 6, 8, 10, 9], [75, 81]),
 (⟨(some 83), none, .mv (.t 11)⟩, [], [11]),
 (⟨(some 84), none, .mv (.t 12)⟩, [], [12]),
 (⟨(some 85), none, .ldn 19 (.t 1)⟩, [], [1]),
 (⟨(some 86), none, .fad 9 (.t 1)⟩, [], [1]),
 (⟨(some 87), none, .ld1 (.t 86)⟩, [16], [86]),
 (⟨(some 88), none, .mv (.t 6)⟩, [], [6]),
 (⟨(some 89), none, .ixs 1 (.t 87) (.t 88)⟩, [17, 16, 18], [87, 88]),
 (⟨(some 90), none, .ld1 (.t 89)⟩, [19, 17, 16, 18], [89]),
 (⟨(some 91), none, .mv (.t 11)⟩, [], [11]),
 (⟨(some 92), none, .len 0 (.t 91)⟩, [21], [91]),
 (⟨(some 93), none, .call 119 [(.t 85), (.t 90), (.t 92)]⟩, [15, 20, 19, 17, 16, 18, 22, 21, 12, 5, 4, 2, 1, 3, 11, 7, 6, 8, 10, 9], [85, 90, 92]),
 (⟨(some 94), none, .build [(.int .i64 0), .nils, .nils, .nils, .nils] [(0, 1, (.t 70)), (1, 1, (.t 82)), (2, 1, (.t 83)), (3, 1, (.t 84)), (4, 1, (.t 93))]⟩, [0, 13, 14, 23, 15, 20, 19, 17, 16, 18, 22, 21, 12, 5, 4, 2, 1, 3, 11, 7, 6, 8, 10, 9], [70, 82, 83, 84, 93]),
 (⟨none, none, .st 5 (.t 2) (.t 94)⟩, [24, 0, 13, 14, 23, 15, 20, 19, 17, 16, 18, 22, 21, 12, 5, 4, 2, 1, 3, 11, 7, 6, 8, 10, 9], [2, 94]),
 (⟨(some 3), none, .mv (.c (.bool true))⟩, [25, 24, 0, 13, 14, 23, 15, 20, 19, 17, 16, 18, 22, 21, 12, 5, 4, 2, 1, 3, 11, 7, 6, 8, 10, 9], [])])
def c53_10 : AC := .seq a53_10 .ret
theorem e53_10 : WC C call L c53_10 F S Q = WC C call L a53_10 F S (thenK (fun F S => WC C call L .ret F S Q) Q) := id rfl
def a53_8 : AC := (.seq (.reg [⟨(some 59), none, .mv (.t 6)⟩,
 ⟨(some 60), none, .bin .add (.t 59) (.c (.int .i64 1))⟩,
 ⟨(some 61), none, .fad 9 (.t 1)⟩,
 ⟨(some 62), none, .ld1 (.t 61)⟩,
 ⟨(some 63), none, .len 0 (.t 62)⟩,
 ⟨(some 64), none, .bin .sub (.t 63) (.c (.int .i64 1))⟩,
 ⟨(some 65), none, .bin .eql (.t 60) (.t 64)⟩]) c53_9)
def c53_8 : AC := .seq a53_8 c53_10
theorem e53_8 : WC C call L c53_8 F S Q = WC C call L a53_8 F S (thenK (fun F S => WC C call L c53_10 F S Q) Q) := id rfl
def a53_7 : AC := (.reg [⟨(some 53), none, .fad 9 (.t 1)⟩,
 ⟨(some 54), none, .ld1 (.t 53)⟩,
 ⟨(some 55), none, .mv (.t 6)⟩,
 ⟨(some 56), none, .bin .add (.t 55) (.c (.int .i64 1))⟩,
 ⟨(some 57), none, .ixs 1 (.t 54) (.t 56)⟩,
 ⟨(some 58), none, .ld1 (.t 57)⟩,
 ⟨(some 12), none, .mv (.t 58)⟩])
def c53_7 : AC := .seq a53_7 c53_8
theorem e53_7 : WC C call L c53_7 F S Q = WC C call L a53_7 F S (thenK (fun F S => WC C call L c53_8 F S Q) Q) := id rfl
def a53_6 : AC := (.reg [⟨(some 48), none, .fad 8 (.t 1)⟩,
 ⟨(some 49), none, .ld1 (.t 48)⟩,
 ⟨(some 50), none, .mv (.t 6)⟩,
 ⟨(some 51), none, .bin .add (.t 50) (.c (.int .i64 1))⟩,
 ⟨(some 52), none, .slc 1 (.t 49) (some (.t 51)) none none⟩,
 ⟨(some 11), none, .mv (.t 52)⟩])
def c53_6 : AC := .seq a53_6 c53_7
theorem e53_6 : WC C call L c53_6 F S Q = WC C call L a53_6 F S (thenK (fun F S => WC C call L c53_7 F S Q) Q) := id rfl
def a53_5 : AC := (.draw [(⟨(some 38), none, .fad 1 (.t 1)⟩, [], [1]),
 (⟨(some 39), none, .ldn 6 (.t 38)⟩, [0], [38]),
 (⟨(some 40), none, .fad 8 (.t 1)⟩, [], [1]),
 (⟨(some 41), none, .ld1 (.t 40)⟩, [2], [40]),
 (⟨(some 42), none, .mv (.t 6)⟩, [], [6]),
 (⟨(some 43), none, .bin .add (.t 42) (.c (.int .i64 1))⟩, [4], [42]),
 (⟨(some 44), none, .slc 1 (.t 41) none (some (.t 43)) none⟩, [3, 2, 5, 4], [41, 43]),
 (⟨(some 45), none, .call 41 [(.t 39), (.c (.int .i64 0)), (.t 44)]⟩, [1, 0, 6, 3, 2, 5, 4], [39, 44]),
 (⟨(some 37), none, .mv (.t 45)⟩, [7, 1, 0, 6, 3, 2, 5, 4], [45]),
 (⟨(some 46), none, .xt 0 (.t 37)⟩, [8, 7, 1, 0, 6, 3, 2, 5, 4], [37]),
 (⟨(some 47), none, .xt 1 (.t 37)⟩, [8, 7, 1, 0, 6, 3, 2, 5, 4], [37]),
 (⟨(some 9), none, .mv (.t 46)⟩, [9, 8, 7, 1, 0, 6, 3, 2, 5, 4], [46]),
 (⟨(some 10), none, .mv (.t 47)⟩, [10, 11, 9, 8, 7, 1, 0, 6, 3, 2, 5, 4], [47])])
def c53_5 : AC := .seq a53_5 c53_6
theorem e53_5 : WC C call L c53_5 F S Q = WC C call L a53_5 F S (thenK (fun F S => WC C call L c53_6 F S Q) Q) := id rfl
def a53_4 : AC := (.draw [(⟨(some 28), none, .fad 1 (.t 1)⟩, [], [1]),
 (⟨(some 29), none, .ldn 6 (.t 28)⟩, [0], [28]),
 (⟨(some 30), none, .fad 8 (.t 1)⟩, [], [1]),
 (⟨(some 31), none, .ld1 (.t 30)⟩, [2], [30]),
 (⟨(some 32), none, .mv (.t 6)⟩, [], [6]),
 (⟨(some 33), none, .slc 1 (.t 31) none (some (.t 32)) none⟩, [3, 2, 4], [31, 32]),
 (⟨(some 34), none, .call 41 [(.t 29), (.c (.int .i64 0)), (.t 33)]⟩, [1, 0, 5, 3, 2, 4], [29, 33]),
 (⟨(some 27), none, .mv (.t 34)⟩, [6, 1, 0, 5, 3, 2, 4], [34]),
 (⟨(some 35), none, .xt 0 (.t 27)⟩, [7, 6, 1, 0, 5, 3, 2, 4], [27]),
 (⟨(some 36), none, .xt 1 (.t 27)⟩, [7, 6, 1, 0, 5, 3, 2, 4], [27]),
 (⟨(some 7), none, .mv (.t 35)⟩, [8, 7, 6, 1, 0, 5, 3, 2, 4], [35]),
 (⟨(some 8), none, .mv (.t 36)⟩, [9, 10, 8, 7, 6, 1, 0, 5, 3, 2, 4], [36])])
def c53_4 : AC := .seq a53_4 c53_5
theorem e53_4 : WC C call L c53_4 F S Q = WC C call L a53_4 F S (thenK (fun F S => WC C call L c53_5 F S Q) Q) := id rfl
def a53_3 : AC := (.reg [⟨(some 24), none, .fad 10 (.t 1)⟩,
 ⟨(some 25), none, .fad 1 (.t 24)⟩,
 ⟨(some 26), none, .ld1 (.t 25)⟩,
 ⟨(some 6), none, .mv (.t 26)⟩])
def c53_3 : AC := .seq a53_3 c53_4
theorem e53_3 : WC C call L c53_3 F S Q = WC C call L a53_3 F S (thenK (fun F S => WC C call L c53_4 F S Q) Q) := id rfl
def a53_2 : AC := (.seq (.reg [⟨(some 18), none, .mv (.t 5)⟩,
 ⟨(some 19), none, .mv (.t 18)⟩,
 ⟨(some 20), (some (19, false)), .fad 17 (.t 1)⟩,
 ⟨(some 21), (some (19, false)), .ld1 (.t 20)⟩,
 ⟨(some 22), none, .pick (.t 19) (.c (.bool true)) (.t 21)⟩]) (.cond (.t 22) (.seq (.reg [⟨(some 23), none, .build [(.int .i64 0), .nils, .nils, .nils, .nils] []⟩,
 ⟨none, none, .st 5 (.t 2) (.t 23)⟩,
 ⟨(some 3), none, .mv (.c (.bool false))⟩]) .ret) .skip))
def c53_2 : AC := .seq a53_2 c53_3
theorem e53_2 : WC C call L c53_2 F S Q = WC C call L a53_2 F S (thenK (fun F S => WC C call L c53_3 F S Q) Q) := id rfl
def a53_1 : AC := (.reg [⟨(some 14), none, .ldn 19 (.t 1)⟩,
 ⟨(some 15), none, .call 51 [(.t 14)]⟩,
 ⟨(some 13), none, .mv (.t 15)⟩,
 ⟨(some 16), none, .xt 0 (.t 13)⟩,
 ⟨(some 17), none, .xt 1 (.t 13)⟩,
 ⟨(some 4), none, .mv (.t 16)⟩,
 ⟨(some 5), none, .mv (.t 17)⟩])
def c53_1 : AC := .seq a53_1 c53_2
theorem e53_1 : WC C call L c53_1 F S Q = WC C call L a53_1 F S (thenK (fun F S => WC C call L c53_2 F S Q) Q) := id rfl
def a53 : AC := (.reg [⟨(some 1), none, .box (.t 0)⟩,
 ⟨(some 2), none, .alloc [(.int .i64 0), .nils, .nils, .nils, .nils]⟩,
 ⟨(some 3), none, .mv (.c (.bool false))⟩])
def c53 : AC := .seq a53 c53_1
theorem e53 : WC C call L c53 F S Q = WC C call L a53 F S (thenK (fun F S => WC C call L c53_1 F S Q) Q) := id rfl
theorem fn53 : (ctxE Try.prog kpN env).fn 53 = some ⟨95, [.cell 2 (some 5), .tmp 3], c53, .plain⟩ := by kernel_rfl
def a54_1 : AC := (.reg [⟨(some 5), none, .fad 0 (.t 2)⟩,
 ⟨(some 6), none, .ld1 (.t 5)⟩,
 ⟨(some 7), none, .fad 0 (.t 3)⟩,
 ⟨(some 8), none, .ld1 (.t 7)⟩,
 ⟨(some 9), none, .bin .eql (.t 6) (.t 8)⟩,
 ⟨(some 10), none, .mv (.t 9)⟩,
 ⟨(some 11), (some (10, true)), .fad 1 (.t 2)⟩,
 ⟨(some 12), (some (10, true)), .ld1 (.t 11)⟩,
 ⟨(some 13), (some (10, true)), .fad 1 (.t 3)⟩,
 ⟨(some 14), (some (10, true)), .ld1 (.t 13)⟩,
 ⟨(some 15), (some (10, true)), .call 30 [(.t 12), (.t 14)]⟩,
 ⟨(some 16), none, .pick (.t 10) (.t 15) (.c (.bool false))⟩,
 ⟨(some 17), none, .mv (.t 16)⟩,
 ⟨(some 18), (some (17, true)), .fad 2 (.t 2)⟩,
 ⟨(some 19), (some (17, true)), .ld1 (.t 18)⟩,
 ⟨(some 20), (some (17, true)), .fad 2 (.t 3)⟩,
 ⟨(some 21), (some (17, true)), .ld1 (.t 20)⟩,
 ⟨(some 22), (some (17, true)), .call 30 [(.t 19), (.t 21)]⟩,
 ⟨(some 23), none, .pick (.t 17) (.t 22) (.c (.bool false))⟩,
 ⟨(some 24), none, .mv (.t 23)⟩,
 ⟨(some 25), (some (24, true)), .fad 3 (.t 2)⟩,
 ⟨(some 26), (some (24, true)), .ld1 (.t 25)⟩,
 ⟨(some 27), (some (24, true)), .fad 3 (.t 3)⟩,
 ⟨(some 28), (some (24, true)), .ld1 (.t 27)⟩,
 ⟨(some 29), (some (24, true)), .call 30 [(.t 26), (.t 28)]⟩,
 ⟨(some 30), none, .pick (.t 24) (.t 29) (.c (.bool false))⟩,
 ⟨(some 31), none, .mv (.t 30)⟩,
 ⟨(some 32), (some (31, true)), .fad 4 (.t 2)⟩,
 ⟨(some 33), (some (31, true)), .ld1 (.t 32)⟩,
 ⟨(some 34), (some (31, true)), .fad 4 (.t 3)⟩,
 ⟨(some 35), (some (31, true)), .ld1 (.t 34)⟩,
 ⟨(some 36), (some (31, true)), .call 30 [(.t 33), (.t 35)]⟩,
 ⟨(some 37), none, .pick (.t 31) (.t 36) (.c (.bool false))⟩,
 ⟨(some 4), none, .mv (.t 37)⟩])
def c54_1 : AC := .seq a54_1 .ret
theorem e54_1 : WC C call L c54_1 F S Q = WC C call L a54_1 F S (thenK (fun F S => WC C call L .ret F S Q) Q) := id rfl
def a54 : AC := (.reg [⟨(some 2), none, .box (.t 0)⟩,
 ⟨(some 3), none, .box (.t 1)⟩,
 ⟨(some 4), none, .mv (.c (.bool false))⟩])
def c54 : AC := .seq a54 c54_1
theorem e54 : WC C call L c54 F S Q = WC C call L a54 F S (thenK (fun F S => WC C call L c54_1 F S Q) Q) := id rfl
theorem fn54 : (ctxE Try.prog kpN env).fn 54 = some ⟨38, [.tmp 4], c54, .plain⟩ := by kernel_rfl
def a55_3 : AC := (.reg [⟨(some 15), none, .mv (.t 4)⟩,
 ⟨(some 16), none, .mv (.t 15)⟩,
 ⟨(some 17), (some (16, true)), .fad 0 (.t 3)⟩,
 ⟨(some 18), (some (16, true)), .ld1 (.t 17)⟩,
 ⟨(some 19), none, .pick (.t 16) (.t 18) (.c (.bool false))⟩,
 ⟨(some 2), none, .mv (.t 19)⟩])
def c55_3 : AC := .seq a55_3 .ret
theorem e55_3 : WC C call L c55_3 F S Q = WC C call L a55_3 F S (thenK (fun F S => WC C call L .ret F S Q) Q) := id rfl
def a55_2 : AC := (.reg [⟨(some 8), none, .mv (.t 0)⟩,
 ⟨(some 9), none, .nck (.t 8)⟩,
 ⟨(some 10), none, .fad 11 (.t 9)⟩,
 ⟨(some 11), none, .ld1 (.t 10)⟩,
 ⟨(some 12), none, .tas 180 (.agg [(.bool false), (.int .i64 0)]) true (.t 11)⟩,
 ⟨(some 7), none, .mv (.t 12)⟩,
 ⟨(some 13), none, .xt 0 (.t 7)⟩,
 ⟨(some 14), none, .xt 1 (.t 7)⟩,
 ⟨(some 3), none, .alloc [(.bool false), (.int .i64 0)]⟩,
 ⟨none, none, .st 2 (.t 3) (.t 13)⟩,
 ⟨(some 4), none, .mv (.t 14)⟩])
def c55_2 : AC := .seq a55_2 c55_3
theorem e55_2 : WC C call L c55_2 F S Q = WC C call L a55_2 F S (thenK (fun F S => WC C call L c55_3 F S Q) Q) := id rfl
def a55_1 : AC := (.seq (.reg [⟨(some 5), none, .mv (.t 0)⟩,
 ⟨(some 6), none, .eq false .ptr (.t 5) (.c .nilp)⟩]) (.cond (.t 6) (.seq (.reg [⟨(some 2), none, .mv (.c (.bool false))⟩]) .ret) .skip))
def c55_1 : AC := .seq a55_1 c55_2
theorem e55_1 : WC C call L c55_1 F S Q = WC C call L a55_1 F S (thenK (fun F S => WC C call L c55_2 F S Q) Q) := id rfl
def a55 : AC := (.reg [⟨(some 2), none, .mv (.c (.bool false))⟩])
def c55 : AC := .seq a55 c55_1
theorem e55 : WC C call L c55 F S Q = WC C call L a55 F S (thenK (fun F S => WC C call L c55_1 F S Q) Q) := id rfl
theorem fn55 : (ctxE Try.prog kpN env).fn 55 = some ⟨20, [.tmp 2], c55, .plain⟩ := by kernel_rfl
def a56_2 : AC := (.reg [⟨(some 5), none, .mv (.t 0)⟩,
 ⟨(some 6), none, .nck (.t 5)⟩,
 ⟨(some 7), none, .fad 13 (.t 6)⟩,
 ⟨(some 8), none, .ld1 (.t 7)⟩,
 ⟨(some 2), none, .mv (.t 8)⟩])
def c56_2 : AC := .seq a56_2 .ret
theorem e56_2 : WC C call L c56_2 F S Q = WC C call L a56_2 F S (thenK (fun F S => WC C call L .ret F S Q) Q) := id rfl
def a56_1 : AC := (.seq (.reg [⟨(some 3), none, .mv (.t 0)⟩,
 ⟨(some 4), none, .eq false .ptr (.t 3) (.c .nilp)⟩]) (.cond (.t 4) (.seq (.reg [⟨(some 2), none, .mv (.c (.int .i64 0))⟩]) .ret) .skip))
def c56_1 : AC := .seq a56_1 c56_2
theorem e56_1 : WC C call L c56_1 F S Q = WC C call L a56_1 F S (thenK (fun F S => WC C call L c56_2 F S Q) Q) := id rfl
def a56 : AC := (.reg [⟨(some 2), none, .mv (.c (.int .i64 0))⟩])
def c56 : AC := .seq a56 c56_1
theorem e56 : WC C call L c56 F S Q = WC C call L a56 F S (thenK (fun F S => WC C call L c56_1 F S Q) Q) := id rfl
theorem fn56 : (ctxE Try.prog kpN env).fn 56 = some ⟨9, [.tmp 2], c56, .plain⟩ := by kernel_rfl
def a58_5 : AC := (.reg [⟨(some 27), none, .mv (.t 7)⟩,
 ⟨(some 28), none, .bin .neq (.t 27) (.c (.int .i64 0))⟩])
def c58_5 : AC := .seq a58_5 (.cond (.t 28) (.seq (.reg [⟨(some 29), none, .mv (.t 7)⟩,
 ⟨(some 4), none, .mv (.t 29)⟩]) .ret) .skip)
theorem e58_5 : WC C call L c58_5 F S Q = WC C call L a58_5 F S (thenK (fun F S => WC C call L (.cond (.t 28) (.seq (.reg [⟨(some 29), none, .mv (.t 7)⟩,
 ⟨(some 4), none, .mv (.t 29)⟩]) .ret) .skip) F S Q) Q) := id rfl
def a58_7 : AC := (.reg [⟨(some 36), none, .mv (.t 8)⟩,
 ⟨(some 37), none, .bin .neq (.t 36) (.c (.int .i64 0))⟩])
def c58_7 : AC := .seq a58_7 (.cond (.t 37) (.seq (.reg [⟨(some 38), none, .mv (.t 8)⟩,
 ⟨(some 4), none, .mv (.t 38)⟩]) .ret) .skip)
theorem e58_7 : WC C call L c58_7 F S Q = WC C call L a58_7 F S (thenK (fun F S => WC C call L (.cond (.t 37) (.seq (.reg [⟨(some 38), none, .mv (.t 8)⟩,
 ⟨(some 4), none, .mv (.t 38)⟩]) .ret) .skip) F S Q) Q) := id rfl
def a58_8 : AC := (.reg [⟨(some 39), none, .mv (.t 0)⟩,
 ⟨(some 40), none, .nck (.t 39)⟩,
 ⟨(some 41), none, .fad 13 (.t 40)⟩,
 ⟨(some 42), none, .ld1 (.t 41)⟩,
 ⟨(some 43), none, .bin .add (.t 42) (.c (.int .i64 1))⟩,
 ⟨(some 44), none, .nck (.t 39)⟩,
 ⟨(some 45), none, .fad 13 (.t 44)⟩,
 ⟨none, none, .st 1 (.t 45) (.t 43)⟩])
def c58_8 : AC := .seq a58_8 (.seq (.reg [⟨(some 4), none, .mv (.c (.int .i64 0))⟩]) .ret)
theorem e58_8 : WC C call L c58_8 F S Q = WC C call L a58_8 F S (thenK (fun F S => WC C call L (.seq (.reg [⟨(some 4), none, .mv (.c (.int .i64 0))⟩]) .ret) F S Q) Q) := id rfl
def a58_6 : AC := (.seq (.reg [⟨(some 30), none, .mv (.t 0)⟩,
 ⟨(some 31), none, .nck (.t 30)⟩,
 ⟨(some 32), none, .fad 12 (.t 31)⟩,
 ⟨(some 33), none, .ld1 (.t 32)⟩,
 ⟨(some 34), none, .mv (.t 1)⟩,
 ⟨(some 35), none, .callv (.t 33) [(.t 34)]⟩,
 ⟨(some 8), none, .mv (.t 35)⟩]) c58_7)
def c58_6 : AC := .seq a58_6 c58_8
theorem e58_6 : WC C call L c58_6 F S Q = WC C call L a58_6 F S (thenK (fun F S => WC C call L c58_8 F S Q) Q) := id rfl
def a58_4 : AC := (.seq (.reg [⟨(some 18), none, .mv (.t 5)⟩,
 ⟨(some 19), none, .mv (.t 0)⟩,
 ⟨(some 20), none, .nck (.t 19)⟩,
 ⟨(some 21), none, .fad 1 (.t 20)⟩,
 ⟨(some 22), none, .ldn 6 (.t 21)⟩,
 ⟨(some 23), none, .build [(.int .i64 0), .nils, (.int .i64 0), (.int .i64 0), (.int .i64 0), (.int .i64 0), .nils, .nils] [(0, 1, (.c (.int .i64 1))), (1, 1, (.t 18)), (2, 6, (.t 22))]⟩,
 ⟨(some 24), none, .mv (.t 1)⟩,
 ⟨(some 25), none, .build [(.int .i64 0), .nils, .nils] [(0, 1, (.c (.int .i64 1))), (1, 1, (.t 24))]⟩,
 ⟨(some 26), none, .call 91 [(.t 23), (.t 25)]⟩,
 ⟨(some 7), none, .mv (.t 26)⟩]) c58_5)
def c58_4 : AC := .seq a58_4 c58_6
theorem e58_4 : WC C call L c58_4 F S Q = WC C call L a58_4 F S (thenK (fun F S => WC C call L c58_6 F S Q) Q) := id rfl
def a58_3 : AC := (.seq (.reg [⟨(some 16), none, .mv (.t 6)⟩,
 ⟨(some 17), none, .un .not (.t 16)⟩]) (.cond (.t 17) (.seq (.reg [⟨(some 4), none, .mv (.c (.int .i64 7))⟩]) .ret) .skip))
def c58_3 : AC := .seq a58_3 c58_4
theorem e58_3 : WC C call L c58_3 F S Q = WC C call L a58_3 F S (thenK (fun F S => WC C call L c58_4 F S Q) Q) := id rfl
def a58_2 : AC := (.reg [⟨(some 12), none, .mv (.t 0)⟩,
 ⟨(some 13), none, .call 50 [(.t 12)]⟩,
 ⟨(some 11), none, .mv (.t 13)⟩,
 ⟨(some 14), none, .xt 0 (.t 11)⟩,
 ⟨(some 15), none, .xt 1 (.t 11)⟩,
 ⟨(some 5), none, .mv (.t 14)⟩,
 ⟨(some 6), none, .mv (.t 15)⟩])
def c58_2 : AC := .seq a58_2 c58_3
theorem e58_2 : WC C call L c58_2 F S Q = WC C call L a58_2 F S (thenK (fun F S => WC C call L c58_3 F S Q) Q) := id rfl
def a58_1 : AC := (.seq (.reg [⟨(some 9), none, .mv (.t 0)⟩,
 ⟨(some 10), none, .eq false .ptr (.t 9) (.c .nilp)⟩]) (.cond (.t 10) (.seq (.reg [⟨(some 4), none, .mv (.c (.int .i64 5))⟩]) .ret) .skip))
def c58_1 : AC := .seq a58_1 c58_2
theorem e58_1 : WC C call L c58_1 F S Q = WC C call L a58_1 F S (thenK (fun F S => WC C call L c58_2 F S Q) Q) := id rfl
def a58 : AC := (.reg [⟨(some 4), none, .mv (.c (.int .i64 0))⟩])
def c58 : AC := .seq a58 c58_1
theorem e58 : WC C call L c58 F S Q = WC C call L a58 F S (thenK (fun F S => WC C call L c58_1 F S Q) Q) := id rfl
theorem fn58 : (ctxE Try.prog kpN env).fn 58 = some ⟨46, [.tmp 4], c58, .plain⟩ := by kernel_rfl
def a59_5 : AC := (.cond (.t 32) (.seq (.reg [⟨(some 33), none, .ldn 19 (.t 2)⟩,
 ⟨(some 34), none, .mv (.t 8)⟩,
 ⟨none, none, .st 19 (.t 4) (.t 33)⟩,
 ⟨(some 5), none, .mv (.t 34)⟩]) .ret) .skip)
def c59_5 : AC := a59_5
theorem e59_5 : WC C call L c59_5 F S Q = WC C call L a59_5 F S Q := id rfl
def a59_15 : AC := (.reg [⟨(some 76), none, .fad 18 (.t 2)⟩,
 ⟨(some 77), none, .ld1 (.t 76)⟩,
 ⟨(some 78), none, .bin .add (.t 77) (.c (.int .i64 1))⟩,
 ⟨(some 79), none, .fad 18 (.t 2)⟩,
 ⟨none, none, .st 1 (.t 79) (.t 78)⟩])
def c59_15 : AC := .seq a59_15 (.seq (.reg [⟨(some 80), none, .ldn 19 (.t 2)⟩,
 ⟨none, none, .st 19 (.t 4) (.t 80)⟩,
 ⟨(some 5), none, .mv (.c (.int .i64 0))⟩]) .ret)
theorem e59_15 : WC C call L c59_15 F S Q = WC C call L a59_15 F S (thenK (fun F S => WC C call L (.seq (.reg [⟨(some 80), none, .ldn 19 (.t 2)⟩,
 ⟨none, none, .st 19 (.t 4) (.t 80)⟩,
 ⟨(some 5), none, .mv (.c (.int .i64 0))⟩]) .ret) F S Q) Q) := id rfl
def a59_14 : AC := (.draw [(⟨(some 65), none, .fad 10 (.t 2)⟩, [], [2]),
 (⟨(some 66), none, .ldn 6 (.t 65)⟩, [0], [65]),
 (⟨(some 67), none, .mv (.t 11)⟩, [], [11]),
 (⟨(some 68), none, .ldn 19 (.t 2)⟩, [], [2]),
 (⟨(some 69), none, .mv (.t 9)⟩, [], [9]),
 (⟨(some 70), none, .call 118 [(.t 68), (.t 69)]⟩, [3, 4], [68, 69]),
 (⟨(some 71), none, .call 30 [(.t 67), (.t 70)]⟩, [2, 5, 3, 4], [67, 70]),
 (⟨(some 72), none, .call 122 [(.t 66), (.t 71)]⟩, [1, 0, 6, 2, 5, 3, 4], [66, 71]),
 (⟨(some 64), none, .mv (.t 72)⟩, [7, 1, 0, 6, 2, 5, 3, 4], [72]),
 (⟨(some 73), none, .xt 0 (.t 64)⟩, [8, 7, 1, 0, 6, 2, 5, 3, 4], [64]),
 (⟨(some 74), none, .xt 1 (.t 64)⟩, [8, 7, 1, 0, 6, 2, 5, 3, 4], [64]),
 (⟨(some 75), none, .fad 10 (.t 2)⟩, [9, 8, 7, 1, 0, 6, 2, 5, 3, 4], [2]),
 (⟨none, none, .st 6 (.t 75) (.t 73)⟩, [11, 9, 8, 7, 1, 0, 6, 2, 5, 3, 4], [75, 73])])
def c59_14 : AC := .seq a59_14 c59_15
theorem e59_14 : WC C call L c59_14 F S Q = WC C call L a59_14 F S (thenK (fun F S => WC C call L c59_15 F S Q) Q) := id rfl
def a59_13 : AC := (.reg [⟨(some 62), none, .mv (.t 12)⟩,
 ⟨(some 63), none, .fad 9 (.t 2)⟩,
 ⟨none, none, .st 1 (.t 63) (.t 62)⟩])
def c59_13 : AC := .seq a59_13 c59_14
theorem e59_13 : WC C call L c59_13 F S Q = WC C call L a59_13 F S (thenK (fun F S => WC C call L c59_14 F S Q) Q) := id rfl
def a59_12 : AC := (.reg [⟨(some 58), none, .mv (.t 12)⟩,
 ⟨(some 59), none, .mv (.t 9)⟩,
 ⟨(some 60), none, .mv (.t 11)⟩,
 ⟨(some 61), none, .ixs 1 (.t 58) (.t 59)⟩,
 ⟨none, none, .st 1 (.t 61) (.t 60)⟩])
def c59_12 : AC := .seq a59_12 c59_13
def a59_11 : AC := (.reg [⟨(some 54), none, .bslice 1 0 [] []⟩,
 ⟨(some 55), none, .fad 9 (.t 2)⟩,
 ⟨(some 56), none, .ld1 (.t 55)⟩,
 ⟨(some 57), none, .app 1 24 (.t 54) (.t 56)⟩,
 ⟨(some 12), none, .mv (.t 57)⟩])
def c59_11 : AC := .seq a59_11 c59_12
def a59_10 : AC := (.reg [⟨(some 46), none, .ldn 19 (.t 2)⟩,
 ⟨(some 47), none, .mv (.t 1)⟩,
 ⟨(some 48), none, .fad 8 (.t 2)⟩,
 ⟨(some 49), none, .ld1 (.t 48)⟩,
 ⟨(some 50), none, .len 0 (.t 49)⟩,
 ⟨(some 51), none, .mv (.t 9)⟩,
 ⟨(some 52), none, .bin .sub (.t 50) (.t 51)⟩,
 ⟨(some 53), none, .call 119 [(.t 46), (.t 47), (.t 52)]⟩,
 ⟨(some 11), none, .mv (.t 53)⟩])
def c59_10 : AC := .seq a59_10 c59_11
def a59_9 : AC := (.reg [⟨(some 41), none, .fad 10 (.t 2)⟩,
 ⟨(some 42), none, .ldn 6 (.t 41)⟩,
 ⟨(some 43), none, .call 114 [(.t 42)]⟩,
 ⟨(some 40), none, .mv (.t 43)⟩,
 ⟨(some 44), none, .xt 0 (.t 40)⟩,
 ⟨(some 45), none, .xt 1 (.t 40)⟩,
 ⟨(some 9), none, .mv (.t 44)⟩,
 ⟨(some 10), none, .mv (.t 45)⟩])
def c59_9 : AC := .seq a59_9 c59_10
def a59_8 : AC := (.cond (.t 39) c59_9 .skip)
def c59_8 : AC := a59_8
theorem e59_8 : WC C call L c59_8 F S Q = WC C call L a59_8 F S Q := id rfl
def a59_20 : AC := (.reg [⟨(some 88), none, .fad 18 (.t 2)⟩,
 ⟨(some 89), none, .ld1 (.t 88)⟩,
 ⟨(some 90), none, .bin .add (.t 89) (.c (.int .i64 1))⟩,
 ⟨(some 91), none, .fad 18 (.t 2)⟩,
 ⟨none, none, .st 1 (.t 91) (.t 90)⟩])
def c59_20 : AC := .seq a59_20 (.seq (.reg [⟨(some 92), none, .ldn 19 (.t 2)⟩,
 ⟨none, none, .st 19 (.t 4) (.t 92)⟩,
 ⟨(some 5), none, .mv (.c (.int .i64 0))⟩]) .ret)
theorem e59_20 : WC C call L c59_20 F S Q = WC C call L a59_20 F S (thenK (fun F S => WC C call L (.seq (.reg [⟨(some 92), none, .ldn 19 (.t 2)⟩,
 ⟨none, none, .st 19 (.t 4) (.t 92)⟩,
 ⟨(some 5), none, .mv (.c (.int .i64 0))⟩]) .ret) F S Q) Q) := id rfl
def a59_19 : AC := (.reg [⟨(some 86), none, .fad 16 (.t 2)⟩,
 ⟨none, none, .st 1 (.t 86) (.c (.bool true))⟩,
 ⟨(some 87), none, .fad 17 (.t 2)⟩,
 ⟨none, none, .st 1 (.t 87) (.c (.bool true))⟩])
def c59_19 : AC := .seq a59_19 c59_20
theorem e59_19 : WC C call L c59_19 F S Q = WC C call L a59_19 F S (thenK (fun F S => WC C call L c59_20 F S Q) Q) := id rfl
def a59_18 : AC := (.cond (.t 85) c59_19 .skip)
def c59_18 : AC := a59_18
theorem e59_18 : WC C call L c59_18 F S Q = WC C call L a59_18 F S Q := id rfl
def a59_26 : AC := (.seq (.draw [(⟨(some 100), none, .mv (.t 1)⟩, [], [1]),
 (⟨(some 101), none, .mv (.t 15)⟩, [], [15]),
 (⟨(some 102), none, .ixs 1 (.t 100) (.t 101)⟩, [0, 1], [100, 101]),
 (⟨(some 103), none, .ld1 (.t 102)⟩, [2, 0, 1], [102]),
 (⟨(some 104), none, .mv (.t 13)⟩, [], [13]),
 (⟨(some 105), none, .mv (.t 15)⟩, [], [15]),
 (⟨(some 106), none, .ixs 1 (.t 104) (.t 105)⟩, [4, 5], [104, 105]),
 (⟨(some 107), none, .ld1 (.t 106)⟩, [6, 4, 5], [106]),
 (⟨(some 108), none, .bin .eql (.t 103) (.t 107)⟩, [3, 2, 0, 1, 7, 6, 4, 5], [103, 107])]) (.cond (.t 108) .skip (.exit 0)))
def c59_26 : AC := .seq a59_26 (.block 1 (.reg [⟨(some 109), none, .mv (.t 15)⟩,
 ⟨(some 110), none, .bin .add (.t 109) (.c (.int .i64 1))⟩,
 ⟨(some 15), none, .mv (.t 110)⟩]))
theorem e59_26 : WC C call L c59_26 F S Q = WC C call L a59_26 F S (thenK (fun F S => WC C call L (.block 1 (.reg [⟨(some 109), none, .mv (.t 15)⟩,
 ⟨(some 110), none, .bin .add (.t 109) (.c (.int .i64 1))⟩,
 ⟨(some 15), none, .mv (.t 110)⟩])) F S Q) Q) := id rfl
def a59_29 : AC := (.reg [⟨(some 120), none, .mv (.t 1)⟩,
 ⟨(some 121), none, .mv (.t 15)⟩,
 ⟨(some 122), none, .bin .add (.t 121) (.c (.int .i64 1))⟩,
 ⟨(some 123), none, .slc 1 (.t 120) none (some (.t 122)) none⟩,
 ⟨(some 1), none, .mv (.t 123)⟩])
def c59_29 : AC := .seq a59_29 (.reg [⟨(some 124), none, .mv (.t 15)⟩,
 ⟨(some 14), none, .mv (.t 124)⟩])
theorem e59_29 : WC C call L c59_29 F S Q = WC C call L a59_29 F S (thenK (fun F S => WC C call L (.reg [⟨(some 124), none, .mv (.t 15)⟩,
 ⟨(some 14), none, .mv (.t 124)⟩]) F S Q) Q) := id rfl
def a59_28 : AC := (.reg [⟨(some 114), none, .fad 8 (.t 2)⟩,
 ⟨(some 115), none, .ld1 (.t 114)⟩,
 ⟨(some 116), none, .mv (.t 15)⟩,
 ⟨(some 117), none, .bin .add (.t 116) (.c (.int .i64 1))⟩,
 ⟨(some 118), none, .slc 1 (.t 115) none (some (.t 117)) none⟩,
 ⟨(some 119), none, .fad 8 (.t 2)⟩,
 ⟨none, none, .st 1 (.t 119) (.t 118)⟩])
def c59_28 : AC := .seq a59_28 c59_29
theorem e59_28 : WC C call L c59_28 F S Q = WC C call L a59_28 F S (thenK (fun F S => WC C call L c59_29 F S Q) Q) := id rfl
def a59_27 : AC := (.seq (.reg [⟨(some 111), none, .mv (.t 15)⟩,
 ⟨(some 112), none, .bin .eql (.t 111) (.c (.int .i64 0))⟩]) (.cond (.t 112) (.seq (.reg [⟨(some 113), none, .ldn 19 (.t 2)⟩,
 ⟨none, none, .st 19 (.t 4) (.t 113)⟩,
 ⟨(some 5), none, .mv (.c (.int .i64 111))⟩]) .ret) .skip))
def c59_27 : AC := .seq a59_27 c59_28
theorem e59_27 : WC C call L c59_27 F S Q = WC C call L a59_27 F S (thenK (fun F S => WC C call L c59_28 F S Q) Q) := id rfl
def a59_25 : AC := (.block 0 (.loop [0, 1, 2, 4, 5, 6, 7, 8, 9, 11, 12, 13, 14, 15, 22, 32, 39, 85, 99, 108, 112] c59_26))
def c59_25 : AC := .seq a59_25 c59_27
theorem e59_25 : WC C call L c59_25 F S Q = WC C call L a59_25 F S (thenK (fun F S => WC C call L c59_27 F S Q) Q) := id rfl
def a59_24 : AC := (.reg [⟨(some 15), none, .mv (.c (.int .i64 0))⟩])
def c59_24 : AC := .seq a59_24 c59_25
theorem e59_24 : WC C call L c59_24 F S Q = WC C call L a59_24 F S (thenK (fun F S => WC C call L c59_25 F S Q) Q) := id rfl
def a59_23 : AC := (.cond (.t 99) c59_24 .skip)
def c59_23 : AC := a59_23
theorem e59_23 : WC C call L c59_23 F S Q = WC C call L a59_23 F S Q := id rfl
def a59_34 : AC := (.reg [⟨(some 142), none, .fad 18 (.t 2)⟩,
 ⟨(some 143), none, .ld1 (.t 142)⟩,
 ⟨(some 144), none, .bin .add (.t 143) (.c (.int .i64 1))⟩,
 ⟨(some 145), none, .fad 18 (.t 2)⟩,
 ⟨none, none, .st 1 (.t 145) (.t 144)⟩])
def c59_34 : AC := .seq a59_34 (.seq (.reg [⟨(some 146), none, .ldn 19 (.t 2)⟩,
 ⟨none, none, .st 19 (.t 4) (.t 146)⟩,
 ⟨(some 5), none, .mv (.c (.int .i64 0))⟩]) .ret)
theorem e59_34 : WC C call L c59_34 F S Q = WC C call L a59_34 F S (thenK (fun F S => WC C call L (.seq (.reg [⟨(some 146), none, .ldn 19 (.t 2)⟩,
 ⟨none, none, .st 19 (.t 4) (.t 146)⟩,
 ⟨(some 5), none, .mv (.c (.int .i64 0))⟩]) .ret) F S Q) Q) := id rfl
def a59_33 : AC := (.reg [⟨(some 135), none, .fad 0 (.t 2)⟩,
 ⟨(some 136), none, .ld1 (.t 135)⟩,
 ⟨(some 137), none, .mv (.t 14)⟩,
 ⟨(some 138), none, .call 123 [(.t 136), (.t 137)]⟩,
 ⟨(some 134), none, .mv (.t 138)⟩,
 ⟨(some 139), none, .xt 0 (.t 134)⟩,
 ⟨(some 140), none, .xt 1 (.t 134)⟩,
 ⟨(some 141), none, .fad 10 (.t 2)⟩,
 ⟨none, none, .st 6 (.t 141) (.t 139)⟩])
def c59_33 : AC := .seq a59_33 c59_34
theorem e59_33 : WC C call L c59_33 F S Q = WC C call L a59_33 F S (thenK (fun F S => WC C call L c59_34 F S Q) Q) := id rfl
def a59_32 : AC := (.reg [⟨(some 130), none, .fad 9 (.t 2)⟩,
 ⟨(some 131), none, .ld1 (.t 130)⟩,
 ⟨(some 132), none, .mv (.t 1)⟩,
 ⟨(some 133), none, .ixs 1 (.t 131) (.c (.int .i64 0))⟩,
 ⟨none, none, .st 1 (.t 133) (.t 132)⟩])
def c59_32 : AC := .seq a59_32 c59_33
theorem e59_32 : WC C call L c59_32 F S Q = WC C call L a59_32 F S (thenK (fun F S => WC C call L c59_33 F S Q) Q) := id rfl
def a59_31 : AC := (.reg [⟨(some 126), none, .mv (.t 14)⟩,
 ⟨(some 127), none, .bin .add (.t 126) (.c (.int .i64 1))⟩,
 ⟨(some 128), none, .mksl 1 24 [.nils] (.t 127) (.t 127)⟩,
 ⟨(some 129), none, .fad 9 (.t 2)⟩,
 ⟨none, none, .st 1 (.t 129) (.t 128)⟩])
def c59_31 : AC := .seq a59_31 c59_32
theorem e59_31 : WC C call L c59_31 F S Q = WC C call L a59_31 F S (thenK (fun F S => WC C call L c59_32 F S Q) Q) := id rfl
def a59_30 : AC := (.reg [⟨(some 125), none, .fad 16 (.t 2)⟩,
 ⟨none, none, .st 1 (.t 125) (.c (.bool true))⟩])
def c59_30 : AC := .seq a59_30 c59_31
theorem e59_30 : WC C call L c59_30 F S Q = WC C call L a59_30 F S (thenK (fun F S => WC C call L c59_31 F S Q) Q) := id rfl
def a59_22 : AC := (.seq (.reg [⟨(some 96), none, .fad 1 (.t 2)⟩,
 ⟨(some 97), none, .fad 0 (.t 96)⟩,
 ⟨(some 98), none, .ld1 (.t 97)⟩,
 ⟨(some 99), none, .bin .eql (.t 98) (.c (.int .i64 2))⟩]) c59_23)
def c59_22 : AC := .seq a59_22 c59_30
theorem e59_22 : WC C call L c59_22 F S Q = WC C call L a59_22 F S (thenK (fun F S => WC C call L c59_30 F S Q) Q) := id rfl
def a59_21 : AC := (.reg [⟨(some 93), none, .fad 8 (.t 2)⟩,
 ⟨(some 94), none, .ld1 (.t 93)⟩,
 ⟨(some 95), none, .len 0 (.t 94)⟩,
 ⟨(some 14), none, .mv (.t 95)⟩])
def c59_21 : AC := .seq a59_21 c59_22
theorem e59_21 : WC C call L c59_21 F S Q = WC C call L a59_21 F S (thenK (fun F S => WC C call L c59_22 F S Q) Q) := id rfl
def a59_17 : AC := (.seq (.reg [⟨(some 83), none, .mv (.t 1)⟩,
 ⟨(some 84), none, .mv (.t 13)⟩,
 ⟨(some 85), none, .call 30 [(.t 83), (.t 84)]⟩]) c59_18)
def c59_17 : AC := .seq a59_17 c59_21
theorem e59_17 : WC C call L c59_17 F S Q = WC C call L a59_17 F S (thenK (fun F S => WC C call L c59_21 F S Q) Q) := id rfl
def a59_16 : AC := (.reg [⟨(some 81), none, .ldn 19 (.t 2)⟩,
 ⟨(some 82), none, .call 118 [(.t 81), (.c (.int .i64 0))]⟩,
 ⟨(some 13), none, .mv (.t 82)⟩])
def c59_16 : AC := .seq a59_16 c59_17
theorem e59_16 : WC C call L c59_16 F S Q = WC C call L a59_16 F S (thenK (fun F S => WC C call L c59_17 F S Q) Q) := id rfl
def a59_7 : AC := (.seq (.reg [⟨(some 38), none, .fad 16 (.t 2)⟩,
 ⟨(some 39), none, .ld1 (.t 38)⟩]) c59_8)
def c59_7 : AC := .seq a59_7 c59_16
theorem e59_7 : WC C call L c59_7 F S Q = WC C call L a59_7 F S (thenK (fun F S => WC C call L c59_16 F S Q) Q) := id rfl
def a59_6 : AC := (.reg [⟨(some 35), none, .bslice 1 0 [] []⟩,
 ⟨(some 36), none, .mv (.t 1)⟩,
 ⟨(some 37), none, .app 1 8 (.t 35) (.t 36)⟩,
 ⟨(some 1), none, .mv (.t 37)⟩])
def c59_6 : AC := .seq a59_6 c59_7
theorem e59_6 : WC C call L c59_6 F S Q = WC C call L a59_6 F S (thenK (fun F S => WC C call L c59_7 F S Q) Q) := id rfl
def a59_4 : AC := (.seq (.reg [⟨(some 31), none, .mv (.t 8)⟩,
 ⟨(some 32), none, .bin .neq (.t 31) (.c (.int .i64 0))⟩]) c59_5)
def c59_4 : AC := .seq a59_4 c59_6
theorem e59_4 : WC C call L c59_4 F S Q = WC C call L a59_4 F S (thenK (fun F S => WC C call L c59_6 F S Q) Q) := id rfl
def a59_3 : AC := (.reg [⟨(some 24), none, .mv (.t 6)⟩,
 ⟨(some 25), none, .fad 1 (.t 2)⟩,
 ⟨(some 26), none, .ldn 6 (.t 25)⟩,
 ⟨(some 27), none, .build [(.int .i64 0), .nils, (.int .i64 0), (.int .i64 0), (.int .i64 0), (.int .i64 0), .nils, .nils] [(0, 1, (.c (.int .i64 1))), (1, 1, (.t 24)), (2, 6, (.t 26))]⟩,
 ⟨(some 28), none, .mv (.t 1)⟩,
 ⟨(some 29), none, .build [(.int .i64 0), .nils, .nils] [(0, 1, (.c (.int .i64 1))), (1, 1, (.t 28))]⟩,
 ⟨(some 30), none, .call 121 [(.t 27), (.t 29)]⟩,
 ⟨(some 8), none, .mv (.t 30)⟩])
def c59_3 : AC := .seq a59_3 c59_4
theorem e59_3 : WC C call L c59_3 F S Q = WC C call L a59_3 F S (thenK (fun F S => WC C call L c59_4 F S Q) Q) := id rfl
def a59_2 : AC := (.seq (.reg [⟨(some 21), none, .mv (.t 7)⟩,
 ⟨(some 22), none, .un .not (.t 21)⟩]) (.cond (.t 22) (.seq (.reg [⟨(some 23), none, .ldn 19 (.t 2)⟩,
 ⟨none, none, .st 19 (.t 4) (.t 23)⟩,
 ⟨(some 5), none, .mv (.c (.int .i64 7))⟩]) .ret) .skip))
def c59_2 : AC := .seq a59_2 c59_3
theorem e59_2 : WC C call L c59_2 F S Q = WC C call L a59_2 F S (thenK (fun F S => WC C call L c59_3 F S Q) Q) := id rfl
def a59_1 : AC := (.reg [⟨(some 17), none, .ldn 19 (.t 2)⟩,
 ⟨(some 18), none, .call 51 [(.t 17)]⟩,
 ⟨(some 16), none, .mv (.t 18)⟩,
 ⟨(some 19), none, .xt 0 (.t 16)⟩,
 ⟨(some 20), none, .xt 1 (.t 16)⟩,
 ⟨(some 6), none, .mv (.t 19)⟩,
 ⟨(some 7), none, .mv (.t 20)⟩])
def c59_1 : AC := .seq a59_1 c59_2
theorem e59_1 : WC C call L c59_1 F S Q = WC C call L a59_1 F S (thenK (fun F S => WC C call L c59_2 F S Q) Q) := id rfl
def a59 : AC := (.reg [⟨(some 2), none, .box (.t 0)⟩,
 ⟨(some 4), none, .alloc [(.int .i64 0), (.int .i64 0), (.int .i64 0), (.int .i64 0), (.int .i64 0), .nils, .nils, .nils, .nils, .nils, (.int .i64 0), (.int .i64 0), (.int .i64 0), (.int .i64 0), (.bool false), (.int .i64 0), (.bool false), (.bool false), (.int .i64 0)]⟩,
 ⟨(some 5), none, .mv (.c (.int .i64 0))⟩])
def c59 : AC := .seq a59 c59_1
theorem e59 : WC C call L c59 F S Q = WC C call L a59 F S (thenK (fun F S => WC C call L c59_1 F S Q) Q) := id rfl
theorem fn59 : (ctxE Try.prog kpN env).fn 59 = some ⟨147, [.cell 4 (some 19), .tmp 5], c59, .plain⟩ := by kernel_rfl
def a111_4 : AC := (.cond (.t 21) (.seq (.reg [⟨(some 22), none, .mv (.t 0)⟩,
 ⟨(some 23), none, .build [(.bool false), (.int .i64 0)] [(0, 1, (.c (.bool true)))]⟩,
 ⟨(some 24), none, .mkif 180 (.t 23)⟩,
 ⟨(some 25), none, .nck (.t 22)⟩,
 ⟨(some 26), none, .fad 11 (.t 25)⟩,
 ⟨none, none, .st 1 (.t 26) (.t 24)⟩]) (.seq (.reg [⟨(some 4), none, .mv (.c (.int .i64 0))⟩]) .ret)) .skip)
def c111_4 : AC := a111_4
theorem e111_4 : WC C call L c111_4 F S Q = WC C call L a111_4 F S Q := id rfl
def a111_9 : AC := (.seq (.draw [(⟨(some 33), none, .mv (.t 1)⟩, [], [1]),
 (⟨(some 34), none, .mv (.t 8)⟩, [], [8]),
 (⟨(some 35), none, .ixs 1 (.t 33) (.t 34)⟩, [0, 1], [33, 34]),
 (⟨(some 36), none, .ld1 (.t 35)⟩, [2, 0, 1], [35]),
 (⟨(some 37), none, .mv (.t 6)⟩, [], [6]),
 (⟨(some 38), none, .mv (.t 8)⟩, [], [8]),
 (⟨(some 39), none, .ixs 1 (.t 37) (.t 38)⟩, [4, 5], [37, 38]),
 (⟨(some 40), none, .ld1 (.t 39)⟩, [6, 4, 5], [39]),
 (⟨(some 41), none, .bin .eql (.t 36) (.t 40)⟩, [3, 2, 0, 1, 7, 6, 4, 5], [36, 40])]) (.cond (.t 41) .skip (.exit 0)))
def c111_9 : AC := .seq a111_9 (.block 1 (.reg [⟨(some 42), none, .mv (.t 8)⟩,
 ⟨(some 43), none, .bin .add (.t 42) (.c (.int .i64 1))⟩,
 ⟨(some 8), none, .mv (.t 43)⟩]))
theorem e111_9 : WC C call L c111_9 F S Q = WC C call L a111_9 F S (thenK (fun F S => WC C call L (.block 1 (.reg [⟨(some 42), none, .mv (.t 8)⟩,
 ⟨(some 43), none, .bin .add (.t 42) (.c (.int .i64 1))⟩,
 ⟨(some 8), none, .mv (.t 43)⟩])) F S Q) Q) := id rfl
def a111_11 : AC := (.draw [(⟨(some 46), none, .mv (.t 0)⟩, [], [0]),
 (⟨(some 47), none, .mv (.t 0)⟩, [], [0]),
 (⟨(some 48), none, .nck (.t 47)⟩, [1], [47]),
 (⟨(some 49), none, .fad 8 (.t 48)⟩, [2, 1], [48]),
 (⟨(some 50), none, .ld1 (.t 49)⟩, [3, 2, 1], [49]),
 (⟨(some 51), none, .mv (.t 8)⟩, [], [8]),
 (⟨(some 52), none, .bin .add (.t 51) (.c (.int .i64 1))⟩, [5], [51]),
 (⟨(some 53), none, .slc 1 (.t 50) none (some (.t 52)) none⟩, [4, 3, 2, 1, 6, 5], [50, 52]),
 (⟨(some 54), none, .mv (.t 1)⟩, [], [1]),
 (⟨(some 55), none, .mv (.t 8)⟩, [], [8]),
 (⟨(some 56), none, .bin .add (.t 55) (.c (.int .i64 1))⟩, [9], [55]),
 (⟨(some 57), none, .slc 1 (.t 54) none (some (.t 56)) none⟩, [8, 10, 9], [54, 56]),
 (⟨(some 58), none, .mv (.t 8)⟩, [], [8]),
 (⟨(some 59), none, .nck (.t 46)⟩, [0, 7, 4, 3, 2, 1, 6, 5], [46]),
 (⟨(some 60), none, .fad 8 (.t 59)⟩, [13, 0, 7, 4, 3, 2, 1, 6, 5], [59]),
 (⟨none, none, .st 1 (.t 60) (.t 53)⟩, [14, 13, 0, 7, 4, 3, 2, 1, 6, 5], [60, 53]),
 (⟨(some 1), none, .mv (.t 57)⟩, [11, 8, 10, 9, 15, 14, 13, 0, 7, 4, 3, 2, 1, 6, 5], [57]),
 (⟨(some 7), none, .mv (.t 58)⟩, [12, 16, 11, 8, 10, 9, 15, 14, 13, 0, 7, 4, 3, 2, 1, 6, 5], [58])])
def c111_11 : AC := a111_11
theorem e111_11 : WC C call L c111_11 F S Q = WC C call L a111_11 F S Q := id rfl
def a111_10 : AC := (.seq (.reg [⟨(some 44), none, .mv (.t 8)⟩,
 ⟨(some 45), none, .bin .eql (.t 44) (.c (.int .i64 0))⟩]) (.cond (.t 45) (.seq (.reg [⟨(some 4), none, .mv (.c (.int .i64 111))⟩]) .ret) .skip))
def c111_10 : AC := .seq a111_10 c111_11
theorem e111_10 : WC C call L c111_10 F S Q = WC C call L a111_10 F S (thenK (fun F S => WC C call L c111_11 F S Q) Q) := id rfl
def a111_8 : AC := (.block 0 (.loop [0, 1, 4, 6, 7, 8, 21, 32, 41, 45] c111_9))
def c111_8 : AC := .seq a111_8 c111_10
theorem e111_8 : WC C call L c111_8 F S Q = WC C call L a111_8 F S (thenK (fun F S => WC C call L c111_10 F S Q) Q) := id rfl
def a111_7 : AC := (.reg [⟨(some 8), none, .mv (.c (.int .i64 0))⟩])
def c111_7 : AC := .seq a111_7 c111_8
theorem e111_7 : WC C call L c111_7 F S Q = WC C call L a111_7 F S (thenK (fun F S => WC C call L c111_8 F S Q) Q) := id rfl
def a111_6 : AC := (.cond (.t 32) c111_7 .skip)
def c111_6 : AC := a111_6
theorem e111_6 : WC C call L c111_6 F S Q = WC C call L a111_6 F S Q := id rfl
def a111_15 : AC := (.reg [⟨(some 88), none, .mv (.t 0)⟩,
 ⟨(some 89), none, .mv (.t 0)⟩,
 ⟨(some 90), none, .mkfn (.func 154) [(.t 89)] []⟩,
 ⟨(some 91), none, .nck (.t 88)⟩,
 ⟨(some 92), none, .fad 12 (.t 91)⟩,
 ⟨none, none, .st 1 (.t 92) (.t 90)⟩])
def c111_15 : AC := .seq a111_15 (.seq (.reg [⟨(some 93), none, .mv (.t 0)⟩,
 ⟨(some 94), none, .call 155 [(.t 93)]⟩]) (.seq (.reg [⟨(some 4), none, .mv (.c (.int .i64 0))⟩]) .ret))
theorem e111_15 : WC C call L c111_15 F S Q = WC C call L a111_15 F S (thenK (fun F S => WC C call L (.seq (.reg [⟨(some 93), none, .mv (.t 0)⟩,
 ⟨(some 94), none, .call 155 [(.t 93)]⟩]) (.seq (.reg [⟨(some 4), none, .mv (.c (.int .i64 0))⟩]) .ret)) F S Q) Q) := id rfl
def a111_14 : AC := (.reg [⟨(some 77), none, .mv (.t 0)⟩,
 ⟨(some 78), none, .mv (.t 0)⟩,
 ⟨(some 79), none, .nck (.t 78)⟩,
 ⟨(some 80), none, .fad 0 (.t 79)⟩,
 ⟨(some 81), none, .ld1 (.t 80)⟩,
 ⟨(some 82), none, .mv (.t 7)⟩,
 ⟨(some 83), none, .call 153 [(.t 81), (.t 82)]⟩,
 ⟨(some 76), none, .mv (.t 83)⟩,
 ⟨(some 84), none, .xt 0 (.t 76)⟩,
 ⟨(some 85), none, .xt 1 (.t 76)⟩,
 ⟨(some 86), none, .nck (.t 77)⟩,
 ⟨(some 87), none, .fad 10 (.t 86)⟩,
 ⟨none, none, .st 1 (.t 87) (.t 84)⟩])
def c111_14 : AC := .seq a111_14 c111_15
theorem e111_14 : WC C call L c111_14 F S Q = WC C call L a111_14 F S (thenK (fun F S => WC C call L c111_15 F S Q) Q) := id rfl
def a111_13 : AC := (.draw [(⟨(some 67), none, .mv (.t 0)⟩, [], [0]),
 (⟨(some 68), none, .nck (.t 67)⟩, [0], [67]),
 (⟨(some 69), none, .fad 9 (.t 68)⟩, [1, 0], [68]),
 (⟨(some 70), none, .ld1 (.t 69)⟩, [2, 1, 0], [69]),
 (⟨(some 71), none, .mv (.t 1)⟩, [], [1]),
 (⟨(some 72), none, .mv (.t 1)⟩, [], [1]),
 (⟨(some 73), none, .len 0 (.t 72)⟩, [5], [72]),
 (⟨(some 74), none, .call 116 [(.t 71), (.t 73)]⟩, [4, 6, 5], [71, 73]),
 (⟨(some 75), none, .ixs 1 (.t 70) (.c (.int .i64 0))⟩, [3, 2, 1, 0, 7, 4, 6, 5], [70]),
 (⟨none, none, .st 1 (.t 75) (.t 74)⟩, [8, 3, 2, 1, 0, 7, 4, 6, 5], [75, 74])])
def c111_13 : AC := .seq a111_13 c111_14
theorem e111_13 : WC C call L c111_13 F S Q = WC C call L a111_13 F S (thenK (fun F S => WC C call L c111_14 F S Q) Q) := id rfl
def a111_12 : AC := (.reg [⟨(some 61), none, .mv (.t 0)⟩,
 ⟨(some 62), none, .mv (.t 7)⟩,
 ⟨(some 63), none, .bin .add (.t 62) (.c (.int .i64 1))⟩,
 ⟨(some 64), none, .mksl 1 24 [.nils] (.t 63) (.t 63)⟩,
 ⟨(some 65), none, .nck (.t 61)⟩,
 ⟨(some 66), none, .fad 9 (.t 65)⟩,
 ⟨none, none, .st 1 (.t 66) (.t 64)⟩])
def c111_12 : AC := .seq a111_12 c111_13
theorem e111_12 : WC C call L c111_12 F S Q = WC C call L a111_12 F S (thenK (fun F S => WC C call L c111_13 F S Q) Q) := id rfl
def a111_5 : AC := (.seq (.reg [⟨(some 27), none, .mv (.t 0)⟩,
 ⟨(some 28), none, .nck (.t 27)⟩,
 ⟨(some 29), none, .fad 1 (.t 28)⟩,
 ⟨(some 30), none, .fad 0 (.t 29)⟩,
 ⟨(some 31), none, .ld1 (.t 30)⟩,
 ⟨(some 32), none, .bin .eql (.t 31) (.c (.int .i64 2))⟩]) c111_6)
def c111_5 : AC := .seq a111_5 c111_12
theorem e111_5 : WC C call L c111_5 F S Q = WC C call L a111_5 F S (thenK (fun F S => WC C call L c111_12 F S Q) Q) := id rfl
def a111_3 : AC := (.seq (.reg [⟨(some 19), none, .mv (.t 1)⟩,
 ⟨(some 20), none, .mv (.t 6)⟩,
 ⟨(some 21), none, .call 101 [(.t 19), (.t 20)]⟩]) c111_4)
def c111_3 : AC := .seq a111_3 c111_5
theorem e111_3 : WC C call L c111_3 F S Q = WC C call L a111_3 F S (thenK (fun F S => WC C call L c111_5 F S Q) Q) := id rfl
def a111_2 : AC := (.reg [⟨(some 14), none, .mv (.t 0)⟩,
 ⟨(some 15), none, .nck (.t 14)⟩,
 ⟨(some 16), none, .fad 8 (.t 15)⟩,
 ⟨(some 17), none, .ld1 (.t 16)⟩,
 ⟨(some 18), none, .len 0 (.t 17)⟩,
 ⟨(some 7), none, .mv (.t 18)⟩])
def c111_2 : AC := .seq a111_2 c111_3
theorem e111_2 : WC C call L c111_2 F S Q = WC C call L a111_2 F S (thenK (fun F S => WC C call L c111_3 F S Q) Q) := id rfl
def a111_1 : AC := (.reg [⟨(some 10), none, .mv (.t 0)⟩,
 ⟨(some 11), none, .call 112 [(.t 10), (.c (.int .i64 0))]⟩,
 ⟨(some 9), none, .mv (.t 11)⟩,
 ⟨(some 12), none, .xt 0 (.t 9)⟩,
 ⟨(some 13), none, .xt 1 (.t 9)⟩,
 ⟨(some 5), none, .mv (.t 12)⟩,
 ⟨(some 6), none, .mv (.t 13)⟩])
def c111_1 : AC := .seq a111_1 c111_2
theorem e111_1 : WC C call L c111_1 F S Q = WC C call L a111_1 F S (thenK (fun F S => WC C call L c111_2 F S Q) Q) := id rfl
def a111 : AC := (.reg [⟨(some 4), none, .mv (.c (.int .i64 0))⟩])
def c111 : AC := .seq a111 c111_1
theorem e111 : WC C call L c111 F S Q = WC C call L a111 F S (thenK (fun F S => WC C call L c111_1 F S Q) Q) := id rfl
theorem fn111 : (ctxE Try.prog kpN env).fn 111 = some ⟨95, [.tmp 4], c111, .plain⟩ := by kernel_rfl
def a112_2 : AC := (.draw [(⟨(some 26), none, .mv (.t 0)⟩, [], [0]),
 (⟨(some 27), none, .nck (.t 26)⟩, [0], [26]),
 (⟨(some 28), none, .fad 1 (.t 27)⟩, [1, 0], [27]),
 (⟨(some 29), none, .ldn 6 (.t 28)⟩, [2, 1, 0], [28]),
 (⟨(some 30), none, .mv (.t 6)⟩, [], [6]),
 (⟨(some 31), none, .mv (.t 0)⟩, [], [0]),
 (⟨(some 32), none, .nck (.t 31)⟩, [5], [31]),
 (⟨(some 33), none, .fad 8 (.t 32)⟩, [6, 5], [32]),
 (⟨(some 34), none, .ld1 (.t 33)⟩, [7, 6, 5], [33]),
 (⟨(some 35), none, .mv (.t 1)⟩, [], [1]),
 (⟨(some 36), none, .slc 1 (.t 34) (some (.t 35)) none none⟩, [8, 7, 6, 5, 9], [34, 35]),
 (⟨(some 37), none, .call 152 [(.t 29), (.t 30), (.t 36)]⟩, [3, 2, 1, 0, 4, 10, 8, 7, 6, 5, 9], [29, 30, 36]),
 (⟨(some 25), none, .mv (.t 37)⟩, [11, 3, 2, 1, 0, 4, 10, 8, 7, 6, 5, 9], [37]),
 (⟨(some 38), none, .xt 0 (.t 25)⟩, [12, 11, 3, 2, 1, 0, 4, 10, 8, 7, 6, 5, 9], [25]),
 (⟨(some 39), none, .xt 1 (.t 25)⟩, [12, 11, 3, 2, 1, 0, 4, 10, 8, 7, 6, 5, 9], [25]),
 (⟨(some 40), none, .xt 2 (.t 25)⟩, [12, 11, 3, 2, 1, 0, 4, 10, 8, 7, 6, 5, 9], [25]),
 (⟨(some 8), none, .mv (.t 38)⟩, [13, 12, 11, 3, 2, 1, 0, 4, 10, 8, 7, 6, 5, 9], [38]),
 (⟨(some 9), none, .mv (.t 39)⟩, [14, 16, 13, 12, 11, 3, 2, 1, 0, 4, 10, 8, 7, 6, 5, 9], [39]),
 (⟨(some 10), none, .mv (.t 40)⟩, [15, 17, 14, 16, 13, 12, 11, 3, 2, 1, 0, 4, 10, 8, 7, 6, 5, 9], [40])])
def c112_2 : AC := .seq a112_2 (.seq (.reg [⟨(some 41), none, .mv (.t 6)⟩,
 ⟨(some 42), none, .mv (.t 9)⟩,
 ⟨(some 4), none, .mv (.t 41)⟩,
 ⟨(some 5), none, .mv (.t 42)⟩]) .ret)
theorem e112_2 : WC C call L c112_2 F S Q = WC C call L a112_2 F S (thenK (fun F S => WC C call L (.seq (.reg [⟨(some 41), none, .mv (.t 6)⟩,
 ⟨(some 42), none, .mv (.t 9)⟩,
 ⟨(some 4), none, .mv (.t 41)⟩,
 ⟨(some 5), none, .mv (.t 42)⟩]) .ret) F S Q) Q) := id rfl
def a112_1 : AC := (.draw [(⟨(some 12), none, .mv (.t 0)⟩, [], [0]),
 (⟨(some 13), none, .nck (.t 12)⟩, [0], [12]),
 (⟨(some 14), none, .fad 1 (.t 13)⟩, [1, 0], [13]),
 (⟨(some 15), none, .ldn 6 (.t 14)⟩, [2, 1, 0], [14]),
 (⟨(some 16), none, .mv (.t 0)⟩, [], [0]),
 (⟨(some 17), none, .nck (.t 16)⟩, [4], [16]),
 (⟨(some 18), none, .fad 8 (.t 17)⟩, [5, 4], [17]),
 (⟨(some 19), none, .ld1 (.t 18)⟩, [6, 5, 4], [18]),
 (⟨(some 20), none, .mv (.t 1)⟩, [], [1]),
 (⟨(some 21), none, .slc 1 (.t 19) none (some (.t 20)) none⟩, [7, 6, 5, 4, 8], [19, 20]),
 (⟨(some 22), none, .call 110 [(.t 15), (.t 21)]⟩, [3, 2, 1, 0, 9, 7, 6, 5, 4, 8], [15, 21]),
 (⟨(some 11), none, .mv (.t 22)⟩, [10, 3, 2, 1, 0, 9, 7, 6, 5, 4, 8], [22]),
 (⟨(some 23), none, .xt 0 (.t 11)⟩, [11, 10, 3, 2, 1, 0, 9, 7, 6, 5, 4, 8], [11]),
 (⟨(some 24), none, .xt 1 (.t 11)⟩, [11, 10, 3, 2, 1, 0, 9, 7, 6, 5, 4, 8], [11]),
 (⟨(some 6), none, .mv (.t 23)⟩, [12, 11, 10, 3, 2, 1, 0, 9, 7, 6, 5, 4, 8], [23]),
 (⟨(some 7), none, .mv (.t 24)⟩, [13, 14, 12, 11, 10, 3, 2, 1, 0, 9, 7, 6, 5, 4, 8], [24])])
def c112_1 : AC := .seq a112_1 c112_2
theorem e112_1 : WC C call L c112_1 F S Q = WC C call L a112_1 F S (thenK (fun F S => WC C call L c112_2 F S Q) Q) := id rfl
def a112 : AC := (.reg [⟨(some 4), none, .mv (.c (.int .i64 0))⟩,
 ⟨(some 5), none, .mv (.c .nils)⟩])
def c112 : AC := .seq a112 c112_1
theorem e112 : WC C call L c112 F S Q = WC C call L a112 F S (thenK (fun F S => WC C call L c112_1 F S Q) Q) := id rfl
theorem fn112 : (ctxE Try.prog kpN env).fn 112 = some ⟨43, [.tmp 4, .tmp 5], c112, .plain⟩ := by kernel_rfl
def a115_2 : AC := (.draw [(⟨(some 17), none, .fad 7 (.t 2)⟩, [], [2]),
 (⟨(some 18), none, .ld1 (.t 17)⟩, [0], [17]),
 (⟨(some 19), none, .mv (.t 5)⟩, [], [5]),
 (⟨(some 20), none, .ixs 1 (.t 18) (.t 19)⟩, [1, 0, 2], [18, 19]),
 (⟨(some 21), none, .ld1 (.t 20)⟩, [3, 1, 0, 2], [20]),
 (⟨(some 22), none, .fad 8 (.t 2)⟩, [], [2]),
 (⟨(some 23), none, .ld1 (.t 22)⟩, [5], [22]),
 (⟨(some 24), none, .mv (.t 1)⟩, [], [1]),
 (⟨(some 25), none, .slc 1 (.t 23) (some (.t 24)) none none⟩, [6, 5, 7], [23, 24]),
 (⟨(some 26), none, .call 97 [(.t 21), (.t 25)]⟩, [4, 3, 1, 0, 2, 8, 6, 5, 7], [21, 25]),
 (⟨(some 4), none, .mv (.t 26)⟩, [9, 4, 3, 1, 0, 2, 8, 6, 5, 7], [26])])
def c115_2 : AC := .seq a115_2 .ret
theorem e115_2 : WC C call L c115_2 F S Q = WC C call L a115_2 F S (thenK (fun F S => WC C call L .ret F S Q) Q) := id rfl
def a115_1 : AC := (.draw [(⟨(some 8), none, .fad 1 (.t 2)⟩, [], [2]),
 (⟨(some 9), none, .ldn 6 (.t 8)⟩, [0], [8]),
 (⟨(some 10), none, .fad 8 (.t 2)⟩, [], [2]),
 (⟨(some 11), none, .ld1 (.t 10)⟩, [2], [10]),
 (⟨(some 12), none, .mv (.t 1)⟩, [], [1]),
 (⟨(some 13), none, .slc 1 (.t 11) none (some (.t 12)) none⟩, [3, 2, 4], [11, 12]),
 (⟨(some 14), none, .call 41 [(.t 9), (.c (.int .i64 0)), (.t 13)]⟩, [1, 0, 5, 3, 2, 4], [9, 13]),
 (⟨(some 7), none, .mv (.t 14)⟩, [6, 1, 0, 5, 3, 2, 4], [14]),
 (⟨(some 15), none, .xt 0 (.t 7)⟩, [7, 6, 1, 0, 5, 3, 2, 4], [7]),
 (⟨(some 16), none, .xt 1 (.t 7)⟩, [7, 6, 1, 0, 5, 3, 2, 4], [7]),
 (⟨(some 5), none, .mv (.t 15)⟩, [8, 7, 6, 1, 0, 5, 3, 2, 4], [15]),
 (⟨(some 6), none, .mv (.t 16)⟩, [9, 10, 8, 7, 6, 1, 0, 5, 3, 2, 4], [16])])
def c115_1 : AC := .seq a115_1 c115_2
theorem e115_1 : WC C call L c115_1 F S Q = WC C call L a115_1 F S (thenK (fun F S => WC C call L c115_2 F S Q) Q) := id rfl
def a115 : AC := (.reg [⟨(some 2), none, .box (.t 0)⟩,
 ⟨(some 4), none, .mv (.c .nils)⟩])
def c115 : AC := .seq a115 c115_1
theorem e115 : WC C call L c115 F S Q = WC C call L a115 F S (thenK (fun F S => WC C call L c115_1 F S Q) Q) := id rfl
theorem fn115 : (ctxE Try.prog kpN env).fn 115 = some ⟨27, [.tmp 4], c115, .plain⟩ := by kernel_rfl
def a116_1 : AC := (.reg [⟨(some 5), none, .mv (.t 0)⟩,
 ⟨(some 6), none, .mv (.t 0)⟩,
 ⟨(some 7), none, .len 0 (.t 6)⟩,
 ⟨(some 8), none, .mv (.t 1)⟩,
 ⟨(some 9), none, .bin .sub (.t 7) (.t 8)⟩,
 ⟨(some 10), none, .mx (.t 9) [(.c (.int .i64 0))]⟩,
 ⟨(some 11), none, .slc 1 (.t 5) (some (.t 10)) none none⟩,
 ⟨(some 12), none, .call 90 [(.t 11)]⟩,
 ⟨(some 4), none, .mv (.t 12)⟩])
def c116_1 : AC := .seq a116_1 .ret
theorem e116_1 : WC C call L c116_1 F S Q = WC C call L a116_1 F S (thenK (fun F S => WC C call L .ret F S Q) Q) := id rfl
def a116 : AC := (.reg [⟨(some 4), none, .mv (.c .nils)⟩])
def c116 : AC := .seq a116 c116_1
theorem e116 : WC C call L c116 F S Q = WC C call L a116 F S (thenK (fun F S => WC C call L c116_1 F S Q) Q) := id rfl
theorem fn116 : (ctxE Try.prog kpN env).fn 116 = some ⟨13, [.tmp 4], c116, .plain⟩ := by kernel_rfl
def a117_1 : AC := (.seq (.reg [⟨(some 5), none, .mv (.t 0)⟩,
 ⟨(some 6), none, .nck (.t 5)⟩,
 ⟨(some 7), none, .fad 1 (.t 6)⟩,
 ⟨(some 8), none, .fad 0 (.t 7)⟩,
 ⟨(some 9), none, .ld1 (.t 8)⟩,
 ⟨(some 10), none, .bin .eql (.t 9) (.c (.int .i64 1))⟩]) (.cond (.t 10) (.seq (.reg [⟨(some 4), none, .mv (.c (.int .i64 1))⟩]) .ret) .skip))
def c117_1 : AC := .seq a117_1 (.seq (.reg [⟨(some 11), none, .mv (.t 1)⟩,
 ⟨(some 4), none, .mv (.t 11)⟩]) .ret)
theorem e117_1 : WC C call L c117_1 F S Q = WC C call L a117_1 F S (thenK (fun F S => WC C call L (.seq (.reg [⟨(some 11), none, .mv (.t 1)⟩,
 ⟨(some 4), none, .mv (.t 11)⟩]) .ret) F S Q) Q) := id rfl
def a117 : AC := (.reg [⟨(some 4), none, .mv (.c (.int .i64 0))⟩])
def c117 : AC := .seq a117 c117_1
theorem e117 : WC C call L c117 F S Q = WC C call L a117 F S (thenK (fun F S => WC C call L c117_1 F S Q) Q) := id rfl
theorem fn117 : (ctxE Try.prog kpN env).fn 117 = some ⟨12, [.tmp 4], c117, .plain⟩ := by kernel_rfl
def a118_2 : AC := (.draw [(⟨(some 20), none, .fad 1 (.t 2)⟩, [], [2]),
 (⟨(some 21), none, .ldn 6 (.t 20)⟩, [0], [20]),
 (⟨(some 22), none, .mv (.t 5)⟩, [], [5]),
 (⟨(some 23), none, .fad 8 (.t 2)⟩, [], [2]),
 (⟨(some 24), none, .ld1 (.t 23)⟩, [3], [23]),
 (⟨(some 25), none, .mv (.t 1)⟩, [], [1]),
 (⟨(some 26), none, .slc 1 (.t 24) (some (.t 25)) none none⟩, [4, 3, 5], [24, 25]),
 (⟨(some 27), none, .call 41 [(.t 21), (.t 22), (.t 26)]⟩, [1, 0, 2, 6, 4, 3, 5], [21, 22, 26]),
 (⟨(some 19), none, .mv (.t 27)⟩, [7, 1, 0, 2, 6, 4, 3, 5], [27]),
 (⟨(some 28), none, .xt 0 (.t 19)⟩, [8, 7, 1, 0, 2, 6, 4, 3, 5], [19]),
 (⟨(some 29), none, .xt 1 (.t 19)⟩, [8, 7, 1, 0, 2, 6, 4, 3, 5], [19]),
 (⟨(some 7), none, .mv (.t 28)⟩, [9, 8, 7, 1, 0, 2, 6, 4, 3, 5], [28]),
 (⟨(some 8), none, .mv (.t 29)⟩, [10, 11, 9, 8, 7, 1, 0, 2, 6, 4, 3, 5], [29])])
def c118_2 : AC := .seq a118_2 (.seq (.reg [⟨(some 30), none, .mv (.t 8)⟩,
 ⟨(some 4), none, .mv (.t 30)⟩]) .ret)
theorem e118_2 : WC C call L c118_2 F S Q = WC C call L a118_2 F S (thenK (fun F S => WC C call L (.seq (.reg [⟨(some 30), none, .mv (.t 8)⟩,
 ⟨(some 4), none, .mv (.t 30)⟩]) .ret) F S Q) Q) := id rfl
def a118_1 : AC := (.draw [(⟨(some 10), none, .fad 1 (.t 2)⟩, [], [2]),
 (⟨(some 11), none, .ldn 6 (.t 10)⟩, [0], [10]),
 (⟨(some 12), none, .fad 8 (.t 2)⟩, [], [2]),
 (⟨(some 13), none, .ld1 (.t 12)⟩, [2], [12]),
 (⟨(some 14), none, .mv (.t 1)⟩, [], [1]),
 (⟨(some 15), none, .slc 1 (.t 13) none (some (.t 14)) none⟩, [3, 2, 4], [13, 14]),
 (⟨(some 16), none, .call 41 [(.t 11), (.c (.int .i64 0)), (.t 15)]⟩, [1, 0, 5, 3, 2, 4], [11, 15]),
 (⟨(some 9), none, .mv (.t 16)⟩, [6, 1, 0, 5, 3, 2, 4], [16]),
 (⟨(some 17), none, .xt 0 (.t 9)⟩, [7, 6, 1, 0, 5, 3, 2, 4], [9]),
 (⟨(some 18), none, .xt 1 (.t 9)⟩, [7, 6, 1, 0, 5, 3, 2, 4], [9]),
 (⟨(some 5), none, .mv (.t 17)⟩, [8, 7, 6, 1, 0, 5, 3, 2, 4], [17]),
 (⟨(some 6), none, .mv (.t 18)⟩, [9, 10, 8, 7, 6, 1, 0, 5, 3, 2, 4], [18])])
def c118_1 : AC := .seq a118_1 c118_2
theorem e118_1 : WC C call L c118_1 F S Q = WC C call L a118_1 F S (thenK (fun F S => WC C call L c118_2 F S Q) Q) := id rfl
def a118 : AC := (.reg [⟨(some 2), none, .box (.t 0)⟩,
 ⟨(some 4), none, .mv (.c .nils)⟩])
def c118 : AC := .seq a118 c118_1
theorem e118 : WC C call L c118 F S Q = WC C call L a118 F S (thenK (fun F S => WC C call L c118_1 F S Q) Q) := id rfl
theorem fn118 : (ctxE Try.prog kpN env).fn 118 = some ⟨31, [.tmp 4], c118, .plain⟩ := by kernel_rfl
def a119_2 : AC := (.reg [⟨(some 12), none, .mv (.t 1)⟩,
 ⟨(some 13), none, .mv (.t 1)⟩,
 ⟨(some 14), none, .len 0 (.t 13)⟩,
 ⟨(some 15), none, .mv (.t 2)⟩,
 ⟨(some 16), none, .bin .sub (.t 14) (.t 15)⟩,
 ⟨(some 17), none, .slc 1 (.t 12) (some (.t 16)) none none⟩,
 ⟨(some 6), none, .mv (.t 17)⟩])
def c119_2 : AC := .seq a119_2 .ret
theorem e119_2 : WC C call L c119_2 F S Q = WC C call L a119_2 F S (thenK (fun F S => WC C call L .ret F S Q) Q) := id rfl
def a119_1 : AC := (.seq (.reg [⟨(some 7), none, .fad 1 (.t 3)⟩,
 ⟨(some 8), none, .fad 0 (.t 7)⟩,
 ⟨(some 9), none, .ld1 (.t 8)⟩,
 ⟨(some 10), none, .bin .eql (.t 9) (.c (.int .i64 1))⟩]) (.cond (.t 10) (.seq (.reg [⟨(some 11), none, .mv (.t 1)⟩,
 ⟨(some 6), none, .mv (.t 11)⟩]) .ret) .skip))
def c119_1 : AC := .seq a119_1 c119_2
theorem e119_1 : WC C call L c119_1 F S Q = WC C call L a119_1 F S (thenK (fun F S => WC C call L c119_2 F S Q) Q) := id rfl
def a119 : AC := (.reg [⟨(some 3), none, .box (.t 0)⟩,
 ⟨(some 6), none, .mv (.c .nils)⟩])
def c119 : AC := .seq a119 c119_1
theorem e119 : WC C call L c119 F S Q = WC C call L a119 F S (thenK (fun F S => WC C call L c119_1 F S Q) Q) := id rfl
theorem fn119 : (ctxE Try.prog kpN env).fn 119 = some ⟨18, [.tmp 6], c119, .plain⟩ := by kernel_rfl
def a154_4 : AC := (.draw [(⟨(some 37), none, .mv (.t 0)⟩, [], [0]),
 (⟨(some 38), none, .nck (.t 37)⟩, [0], [37]),
 (⟨(some 39), none, .fad 10 (.t 38)⟩, [1, 0], [38]),
 (⟨(some 40), none, .ld1 (.t 39)⟩, [2, 1, 0], [39]),
 (⟨(some 41), none, .mv (.t 0)⟩, [], [0]),
 (⟨(some 42), none, .nck (.t 41)⟩, [4], [41]),
 (⟨(some 43), none, .fad 9 (.t 42)⟩, [5, 4], [42]),
 (⟨(some 44), none, .ld1 (.t 43)⟩, [6, 5, 4], [43]),
 (⟨(some 45), none, .mv (.t 5)⟩, [], [5]),
 (⟨(some 46), none, .ixs 1 (.t 44) (.t 45)⟩, [7, 6, 5, 4, 8], [44, 45]),
 (⟨(some 47), none, .ld1 (.t 46)⟩, [9, 7, 6, 5, 4, 8], [46]),
 (⟨(some 48), none, .mv (.t 7)⟩, [], [7]),
 (⟨(some 49), none, .call 101 [(.t 47), (.t 48)]⟩, [10, 9, 7, 6, 5, 4, 8, 11], [47, 48]),
 (⟨(some 50), none, .call 174 [(.t 40), (.t 49)]⟩, [3, 2, 1, 0, 12, 10, 9, 7, 6, 5, 4, 8, 11], [40, 49])])
def c154_4 : AC := .seq a154_4 (.seq (.reg [⟨(some 51), none, .mv (.t 0)⟩,
 ⟨(some 52), none, .call 155 [(.t 51)]⟩]) (.seq (.reg [⟨(some 4), none, .mv (.c (.int .i64 0))⟩]) .ret))
theorem e154_4 : WC C call L c154_4 F S Q = WC C call L a154_4 F S (thenK (fun F S => WC C call L (.seq (.reg [⟨(some 51), none, .mv (.t 0)⟩,
 ⟨(some 52), none, .call 155 [(.t 51)]⟩]) (.seq (.reg [⟨(some 4), none, .mv (.c (.int .i64 0))⟩]) .ret)) F S Q) Q) := id rfl
def a154_3 : AC := (.draw [(⟨(some 20), none, .mv (.t 0)⟩, [], [0]),
 (⟨(some 21), none, .nck (.t 20)⟩, [0], [20]),
 (⟨(some 22), none, .fad 9 (.t 21)⟩, [1, 0], [21]),
 (⟨(some 23), none, .ld1 (.t 22)⟩, [2, 1, 0], [22]),
 (⟨(some 24), none, .mv (.t 5)⟩, [], [5]),
 (⟨(some 25), none, .mv (.t 1)⟩, [], [1]),
 (⟨(some 26), none, .mv (.t 0)⟩, [], [0]),
 (⟨(some 27), none, .mv (.t 0)⟩, [], [0]),
 (⟨(some 28), none, .nck (.t 27)⟩, [7], [27]),
 (⟨(some 29), none, .fad 8 (.t 28)⟩, [8, 7], [28]),
 (⟨(some 30), none, .ld1 (.t 29)⟩, [9, 8, 7], [29]),
 (⟨(some 31), none, .len 0 (.t 30)⟩, [10, 9, 8, 7], [30]),
 (⟨(some 32), none, .mv (.t 5)⟩, [], [5]),
 (⟨(some 33), none, .bin .sub (.t 31) (.t 32)⟩, [11, 10, 9, 8, 7, 12], [31, 32]),
 (⟨(some 34), none, .call 117 [(.t 26), (.t 33)]⟩, [6, 13, 11, 10, 9, 8, 7, 12], [26, 33]),
 (⟨(some 35), none, .call 116 [(.t 25), (.t 34)]⟩, [5, 14, 6, 13, 11, 10, 9, 8, 7, 12], [25, 34]),
 (⟨(some 36), none, .ixs 1 (.t 23) (.t 24)⟩, [3, 2, 1, 0, 4, 15, 5, 14, 6, 13, 11, 10, 9, 8, 7, 12], [23, 24]),
 (⟨none, none, .st 1 (.t 36) (.t 35)⟩, [16, 3, 2, 1, 0, 4, 15, 5, 14, 6, 13, 11, 10, 9, 8, 7, 12], [36, 35])])
def c154_3 : AC := .seq a154_3 c154_4
theorem e154_3 : WC C call L c154_3 F S Q = WC C call L a154_3 F S (thenK (fun F S => WC C call L c154_4 F S Q) Q) := id rfl
def a154_2 : AC := (.reg [⟨(some 15), none, .mv (.t 0)⟩,
 ⟨(some 16), none, .mv (.t 5)⟩,
 ⟨(some 17), none, .call 112 [(.t 15), (.t 16)]⟩,
 ⟨(some 14), none, .mv (.t 17)⟩,
 ⟨(some 18), none, .xt 0 (.t 14)⟩,
 ⟨(some 19), none, .xt 1 (.t 14)⟩,
 ⟨(some 6), none, .mv (.t 18)⟩,
 ⟨(some 7), none, .mv (.t 19)⟩])
def c154_2 : AC := .seq a154_2 c154_3
theorem e154_2 : WC C call L c154_2 F S Q = WC C call L a154_2 F S (thenK (fun F S => WC C call L c154_3 F S Q) Q) := id rfl
def a154_1 : AC := (.reg [⟨(some 8), none, .mv (.t 0)⟩,
 ⟨(some 9), none, .nck (.t 8)⟩,
 ⟨(some 10), none, .fad 11 (.t 9)⟩,
 ⟨(some 11), none, .ld1 (.t 10)⟩,
 ⟨(some 12), none, .tas 167 (.agg [(.int .i64 0)]) false (.t 11)⟩,
 ⟨(some 13), none, .fld 0 none (.t 12)⟩,
 ⟨(some 5), none, .mv (.t 13)⟩])
def c154_1 : AC := .seq a154_1 c154_2
theorem e154_1 : WC C call L c154_1 F S Q = WC C call L a154_1 F S (thenK (fun F S => WC C call L c154_2 F S Q) Q) := id rfl
def a154 : AC := (.reg [⟨(some 4), none, .mv (.c (.int .i64 0))⟩])
def c154 : AC := .seq a154 c154_1
theorem e154 : WC C call L c154 F S Q = WC C call L a154 F S (thenK (fun F S => WC C call L c154_1 F S Q) Q) := id rfl
theorem fn154 : (ctxE Try.prog kpN env).fn 154 = some ⟨53, [.tmp 4], c154, .plain⟩ := by kernel_rfl
def a155_2 : AC := (.cond (.t 14) (.seq (.reg [⟨(some 15), none, .mv (.t 0)⟩,
 ⟨(some 16), none, .mv (.t 2)⟩,
 ⟨(some 17), none, .build [(.int .i64 0)] [(0, 1, (.t 16))]⟩,
 ⟨(some 18), none, .mkif 167 (.t 17)⟩,
 ⟨(some 19), none, .nck (.t 15)⟩,
 ⟨(some 20), none, .fad 11 (.t 19)⟩,
 ⟨none, none, .st 1 (.t 20) (.t 18)⟩]) .ret) .skip)
def c155_2 : AC := a155_2
theorem e155_2 : WC C call L c155_2 F S Q = WC C call L a155_2 F S Q := id rfl
def a155_1 : AC := (.reg [⟨(some 14), none, .mv (.t 3)⟩])
def c155_1 : AC := .seq a155_1 c155_2
theorem e155_1 : WC C call L c155_1 F S Q = WC C call L a155_1 F S (thenK (fun F S => WC C call L c155_2 F S Q) Q) := id rfl
def a155_4 : AC := (.reg [⟨(some 29), none, .mv (.t 0)⟩,
 ⟨(some 30), none, .mv (.t 4)⟩,
 ⟨(some 31), none, .build [(.bool false), (.int .i64 0)] [(1, 1, (.t 30))]⟩,
 ⟨(some 32), none, .mkif 180 (.t 31)⟩,
 ⟨(some 33), none, .nck (.t 29)⟩,
 ⟨(some 34), none, .fad 11 (.t 33)⟩,
 ⟨none, none, .st 1 (.t 34) (.t 32)⟩])
def c155_4 : AC := a155_4
theorem e155_4 : WC C call L c155_4 F S Q = WC C call L a155_4 F S Q := id rfl
def a155_3 : AC := (.reg [⟨(some 22), none, .mv (.t 0)⟩,
 ⟨(some 23), none, .nck (.t 22)⟩,
 ⟨(some 24), none, .fad 10 (.t 23)⟩,
 ⟨(some 25), none, .ld1 (.t 24)⟩,
 ⟨(some 26), none, .call 176 [(.t 25)]⟩,
 ⟨(some 21), none, .mv (.t 26)⟩,
 ⟨(some 27), none, .xt 0 (.t 21)⟩,
 ⟨(some 28), none, .xt 1 (.t 21)⟩,
 ⟨(some 4), none, .mv (.t 27)⟩,
 ⟨(some 5), none, .mv (.t 28)⟩])
def c155_3 : AC := .seq a155_3 c155_4
theorem e155_3 : WC C call L c155_3 F S Q = WC C call L a155_3 F S (thenK (fun F S => WC C call L c155_4 F S Q) Q) := id rfl
def a155 : AC := (.seq (.reg [⟨(some 7), none, .mv (.t 0)⟩,
 ⟨(some 8), none, .nck (.t 7)⟩,
 ⟨(some 9), none, .fad 10 (.t 8)⟩,
 ⟨(some 10), none, .ld1 (.t 9)⟩,
 ⟨(some 11), none, .call 175 [(.t 10)]⟩,
 ⟨(some 6), none, .mv (.t 11)⟩,
 ⟨(some 12), none, .xt 0 (.t 6)⟩,
 ⟨(some 13), none, .xt 1 (.t 6)⟩,
 ⟨(some 2), none, .mv (.t 12)⟩,
 ⟨(some 3), none, .mv (.t 13)⟩]) c155_1)
def c155 : AC := .seq a155 c155_3
theorem e155 : WC C call L c155 F S Q = WC C call L a155 F S (thenK (fun F S => WC C call L c155_3 F S Q) Q) := id rfl
theorem fn155 : (ctxE Try.prog kpN env).fn 155 = some ⟨35, [], c155, .plain⟩ := by kernel_rfl
def a199 : AC := (.reg [⟨(some 1), none, .box (.t 0)⟩,
 ⟨(some 2), none, .mv (.c (.bool false))⟩])
def c199 : AC := .seq a199 (.seq (.reg [⟨(some 2), none, .mv (.c (.bool false))⟩]) .ret)
theorem e199 : WC C call L c199 F S Q = WC C call L a199 F S (thenK (fun F S => WC C call L (.seq (.reg [⟨(some 2), none, .mv (.c (.bool false))⟩]) .ret) F S Q) Q) := id rfl
theorem fn199 : (ctxE Try.prog kpN env).fn 199 = some ⟨3, [.tmp 2], c199, .plain⟩ := by kernel_rfl
def a201 : AC := (.reg [⟨(some 1), none, .box (.t 0)⟩,
 ⟨(some 2), none, .mv (.c (.bool false))⟩])
def c201 : AC := .seq a201 (.seq (.reg [⟨(some 2), none, .mv (.c (.bool true))⟩]) .ret)
theorem e201 : WC C call L c201 F S Q = WC C call L a201 F S (thenK (fun F S => WC C call L (.seq (.reg [⟨(some 2), none, .mv (.c (.bool true))⟩]) .ret) F S Q) Q) := id rfl
theorem fn201 : (ctxE Try.prog kpN env).fn 201 = some ⟨3, [.tmp 2], c201, .plain⟩ := by kernel_rfl
end Go.Proofs.Ytednmmcdjhfflaa.Vai
