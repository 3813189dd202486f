/-
  The functions' intermediate code. Printed by ppcode.lean out of the translation.
-/
import Derived.Test.YtednmmcdjhfflaaProg
import Derived.Test.YtednmmcdjhfflaaVaiZ
import Derived.KernelRfl
namespace Go.Proofs.Ytednmmcdjhfflaa.Vai
open Go
def kpN : Nat → List Nat
  | 3 => [0, 1, 2, 3, 8, 9, 10, 11, 12, 13, 14, 15, 16, 17, 18, 19, 20, 21, 22, 23, 24, 25, 26, 27, 28, 29, 30, 31, 33, 52, 54, 61, 65, 90, 145, 146, 161, 215, 224, 241, 249, 262, 271, 297]
  | 4 => [0, 1, 2, 3, 4, 8, 9, 10, 11, 13, 14, 15, 17, 19, 20, 21, 23, 24, 53, 63, 80, 84, 107, 110, 139]
  | 6 => [0, 1, 2, 3, 6, 7, 8, 9, 10, 11, 12, 13, 15, 17, 18, 20, 21, 23, 25, 46, 65, 69, 91, 107, 111, 134]
  | 7 => [0, 1, 2, 3, 4, 5, 7, 11, 12, 13, 14, 15, 16, 17, 18, 19, 20, 21, 22, 23, 24, 25, 26, 27, 28, 29, 30, 31, 44, 81, 83, 90, 95, 151, 159, 171, 195, 203]
  | 8 => [0, 1, 2, 3, 5, 6, 8, 9, 10, 11, 13, 14, 15, 16, 17, 18, 19, 20, 22, 23, 25, 27, 28, 29, 41, 67, 86, 88, 97, 112, 161, 163, 194]
  | 9 => [0, 1, 2, 3, 5, 6, 8, 9, 10, 11, 13, 14, 15, 17, 18, 19, 20, 21, 22, 23, 24, 25, 26, 27, 28, 30, 31, 33, 35, 47, 73, 95, 133, 135, 156, 158, 185, 212]
  | 10 => [0, 1, 2, 3, 8, 9, 10, 11, 12, 13, 14, 15, 16, 17, 18, 19, 29, 48, 50, 57, 61, 80, 86, 102, 117, 132, 176]
  | 12 => [0, 1, 2, 3, 5, 6, 7, 8, 9, 10, 11, 12, 13, 14, 15, 16, 17, 18, 30, 53, 59, 63, 72, 88, 94, 99, 105, 110, 144]
  | 13 => [0, 1, 2, 3, 6, 7, 8, 9, 10, 11, 13, 14, 15, 16, 18, 19, 50, 55, 66, 74, 91, 99, 127]
  | 15 => [0, 2, 3, 6, 10, 64]
  | 24 => [0, 1, 2, 4, 5, 6, 7, 8, 9, 10, 17, 26, 31, 50, 64, 68]
  | 25 => [0, 1, 2, 3, 4, 5, 9, 12, 13, 15, 17, 18, 20, 31, 34, 35, 36, 37, 51, 54, 66, 79, 83, 90]
  | 30 => [0, 1, 4, 5, 10, 14, 25]
  | 31 => [0, 1, 2, 6, 7, 8, 9, 10, 11, 13, 14, 17, 42, 58, 63, 65, 77, 80]
  | 32 => [0, 1, 2, 3, 6, 7, 8, 28, 31, 50]
  | 35 => [0, 1, 4, 5, 7, 10, 14, 35]
  | 36 => [0, 1, 2, 3, 6, 7, 8, 9, 10, 11, 13, 14, 15, 16, 17, 18, 19, 36, 40, 66, 91, 111, 137]
  | 38 => [0, 1, 2, 4, 6, 7, 8, 9, 10, 11, 12, 13, 14, 20, 22, 31, 50]
  | 41 => [0, 1, 2, 3, 6, 7, 8, 9, 13, 18, 50]
  | 42 => [0, 2, 3, 4, 5, 6, 7, 8, 9, 13, 22, 36, 44, 55, 64, 76]
  | 43 => [0, 1, 2, 3, 6, 7, 29, 33, 41]
  | 46 => [0, 1, 2, 3, 5, 8, 9, 11, 12, 13, 14, 15, 16, 18, 24, 31, 44, 67, 68, 69, 70, 81, 85, 106, 110]
  | 47 => [0, 1, 2, 3, 5, 8, 9, 11, 12, 14, 15, 22, 30, 44, 49, 63, 77, 87, 92]
  | 59 => [0, 1, 2, 4, 5, 6, 7, 8, 9, 11, 12, 13, 14, 15, 22, 32, 39, 85, 99, 108, 112]
  | 60 => [0, 1, 2, 3, 4, 5, 6, 7, 10, 12, 13, 35, 55, 66, 83]
  | 61 => [0, 1, 4, 5, 6, 12, 15, 19, 34]
  | 63 => [0, 2, 3, 6, 10, 46]
  | 65 => [0, 1, 2, 6, 7, 8, 9, 10, 17, 24, 54, 60, 61, 62]
  | 66 => [0, 1, 2, 6, 7, 8, 9, 15, 22, 37, 47, 57]
  | 74 => [0, 2, 3, 5, 7, 8, 10, 12, 14, 15, 16, 17, 26, 27, 28, 29, 51, 59]
  | 76 => [0, 2, 3, 7, 15]
  | 77 => [0, 1, 2, 3, 6, 7, 8, 9, 10, 11, 13, 14, 15, 16, 17, 18, 19, 20, 21, 22, 23, 24, 25, 26, 54, 59, 81, 86, 108, 111, 132, 135, 154]
  | 78 => [0, 1, 2, 3, 4, 6, 7, 8, 9, 17, 30, 39, 47, 70, 88]
  | 79 => [0, 2, 3, 5, 6, 7, 8, 10, 12, 14, 20, 28, 29, 30, 31, 51, 52, 53, 54, 66]
  | 80 => [0, 2, 3, 5, 6, 7, 8, 10, 11, 12, 13, 15, 17, 23, 31, 32, 33, 34, 41, 42, 43, 44, 53, 58, 59, 60, 78, 79, 80, 81, 93]
  | 81 => [0, 2, 3, 4, 5, 7, 8, 10, 12, 13, 15, 19, 28, 29, 30, 31, 44, 61, 62, 63, 64, 69, 81, 82, 83, 101]
  | 84 => [0, 1, 2, 4, 5, 6, 7, 8, 9, 10, 11, 12, 13, 14, 16, 18, 26, 32, 40, 48, 71, 102]
  | 85 => [0, 2, 3, 4, 8]
  | 89 => [0, 1, 4, 5, 6, 7, 11, 16, 17, 18, 32]
  | 93 => [0, 2, 3, 4, 5, 9, 10, 11, 12]
  | 95 => [0, 1, 2, 3, 4, 7, 12, 36]
  | 99 => [0, 1, 2, 3, 4, 5, 12, 17, 45]
  | 101 => [0, 1, 4, 5, 10, 12, 13, 14, 24]
  | 104 => [0, 1, 4, 5, 9, 17]
  | 105 => [0, 1, 2, 3, 4, 9, 20]
  | 106 => [0, 1, 2, 3, 5, 6, 17, 22, 32]
  | 107 => [0, 1, 2, 6, 7, 8, 10, 17, 19, 20, 26, 27, 32, 34, 40]
  | 108 => [0, 1, 2, 3, 4, 5, 6, 14, 22, 40, 48, 53, 74, 79, 97, 103, 121]
  | 111 => [0, 1, 4, 6, 7, 8, 21, 32, 41, 45]
  | 121 => [0, 1, 2, 3, 4, 6, 7, 8, 9, 17, 20, 53, 63, 91, 96, 113]
  | 124 => [0, 1, 2, 3, 4, 6, 7, 8, 16, 25]
  | 125 => [0, 1, 2, 3, 4, 6, 7, 8, 9, 10, 11, 12, 13, 14, 21, 34, 40, 46, 66]
  | 126 => [0, 2, 3, 5]
  | 130 => [0, 2, 3, 5, 10, 11, 12, 13]
  | 131 => [0, 1, 4, 5, 9, 17]
  | 132 => [0, 2, 3, 5, 6, 21, 22, 23, 24, 31, 32, 33]
  | 134 => [0, 1, 2, 3, 4, 5, 6, 7, 8, 9, 15, 22, 53]
  | 135 => [0, 1, 4, 5, 10, 14, 26]
  | 136 => [0, 1, 2, 3, 5, 6, 7, 13, 22, 31]
  | 137 => [0, 1, 2, 3, 5, 6, 7, 8, 9, 10, 11, 17, 22, 31, 46, 51, 58, 94]
  | 138 => [0, 1, 2, 3, 5, 7, 9, 10, 11, 12, 34, 46, 51, 66, 86]
  | 139 => [0, 1, 2, 3, 4, 6, 7, 8, 9, 10, 17, 31]
  | 140 => [0, 1, 4, 5, 7, 8, 10, 17, 18, 19, 20, 37, 38, 39, 40]
  | 143 => [0, 1, 2, 3, 4, 6, 7, 8, 9, 10, 12, 14, 15, 23, 29, 30, 31, 32, 50, 51, 52, 53, 67, 68, 69, 70]
  | 144 => [0, 2, 3, 5, 6, 7, 8, 9]
  | 145 => [0, 1, 2, 3, 4, 5, 8, 9, 10, 11, 12, 13, 14, 15, 16, 17, 18, 19, 24, 51, 71, 113, 124]
  | 149 => [0, 1, 4, 5, 7, 8, 9, 16]
  | 151 => [0, 1, 4, 5, 7, 8, 9, 18]
  | 152 => [0, 1, 2, 3, 6, 7, 8, 10, 12, 14, 15, 22, 31, 40, 42, 43, 44, 45, 56, 73]
  | 156 => [0, 2, 3, 5, 6, 8, 9, 10, 11, 12, 20, 25, 26, 27, 28]
  | 157 => [0, 1, 2, 3, 6, 7, 8, 9, 10, 23, 33, 56, 74]
  | 160 => [0, 1, 4, 5, 6, 7, 8, 9, 10, 11, 12, 19, 28, 35]
  | 161 => [0, 1, 2, 3, 4, 5, 14, 21]
  | 162 => [0, 1, 4, 5, 10, 19, 30]
  | 163 => [0, 1, 2, 4, 5, 10, 20]
  | 164 => [0, 1, 2, 3, 6, 7, 12, 32]
  | 166 => [0, 1, 2, 3, 4, 5, 6, 10, 19]
  | 167 => [0, 1, 2, 3, 6, 7, 8, 9, 10, 11, 12, 13, 17, 26, 59]
  | 168 => [0, 2, 3, 4, 5, 6, 7, 11, 20, 30, 36]
  | 169 => [0, 1, 2, 3, 4, 6, 7, 8, 9, 10, 12, 19, 29, 33, 34, 35, 56, 80]
  | 179 => [0, 1, 2, 3, 6, 7, 10, 25, 48]
  | 180 => [0, 1, 4, 5, 7, 8, 9, 16]
  | 198 => [0, 2, 3, 5, 10, 12]
  | _ => []
variable {env : Env} {C : Ctx} {call : CallF} {L : Nat} {F : Fr} {S : AS} {Q : AE → Fr → AS → Prop}
def a20_2 : AC := (.reg [⟨(some 9), none, .mv (.t 3)⟩,
 ⟨(some 10), none, .mv (.t 0)⟩,
 ⟨(some 11), none, .len 0 (.t 10)⟩,
 ⟨(some 12), none, .slc 1 (.t 9) none (some (.t 11)) none⟩,
 ⟨(some 2), none, .mv (.t 12)⟩])
def c20_2 : AC := .seq a20_2 .ret
theorem e20_2 : WC C call L c20_2 F S Q = WC C call L a20_2 F S (thenK (fun F S => WC C call L .ret F S Q) Q) := id rfl
def a20_1 : AC := (.reg [⟨(some 4), none, .bslice 1 0 [] []⟩,
 ⟨(some 5), none, .mv (.t 0)⟩,
 ⟨(some 6), none, .app 1 8 (.t 4) (.t 5)⟩,
 ⟨(some 7), none, .bslice 1 2 [(.int .i64 0), (.int .i64 0)] [(0, 1, (.c (.int .i64 (-771)))), (1, 1, (.c (.int .i64 (-772))))]⟩,
 ⟨(some 8), none, .app 1 8 (.t 6) (.t 7)⟩,
 ⟨(some 3), none, .mv (.t 8)⟩])
def c20_1 : AC := .seq a20_1 c20_2
theorem e20_1 : WC C call L c20_1 F S Q = WC C call L a20_1 F S (thenK (fun F S => WC C call L c20_2 F S Q) Q) := id rfl
def a20 : AC := (.reg [⟨(some 2), none, .mv (.c .nils)⟩])
def c20 : AC := .seq a20 c20_1
theorem e20 : WC C call L c20 F S Q = WC C call L a20 F S (thenK (fun F S => WC C call L c20_1 F S Q) Q) := id rfl
theorem fn20 : (ctxE Try.prog kpN env).fn 20 = some ⟨13, [.tmp 2], c20, .plain⟩ := by kernel_rfl
def a28_2 : AC := (.reg [⟨(some 11), none, .mv (.t 0)⟩,
 ⟨(some 12), none, .mv (.t 1)⟩,
 ⟨(some 13), none, .call 30 [(.t 11), (.t 12)]⟩,
 ⟨(some 14), none, .mv (.t 13)⟩,
 ⟨(some 15), (some (14, true)), .mv (.t 5)⟩,
 ⟨(some 16), (some (14, true)), .mv (.t 0)⟩,
 ⟨(some 17), (some (14, true)), .len 0 (.t 16)⟩,
 ⟨(some 18), (some (14, true)), .ixs 1 (.t 15) (.t 17)⟩,
 ⟨(some 19), (some (14, true)), .ld1 (.t 18)⟩,
 ⟨(some 20), (some (14, true)), .bin .eql (.t 19) (.c (.int .i64 (-771)))⟩,
 ⟨(some 21), none, .pick (.t 14) (.t 20) (.c (.bool false))⟩,
 ⟨(some 22), none, .mv (.t 21)⟩,
 ⟨(some 23), (some (22, true)), .mv (.t 5)⟩,
 ⟨(some 24), (some (22, true)), .mv (.t 0)⟩,
 ⟨(some 25), (some (22, true)), .len 0 (.t 24)⟩,
 ⟨(some 26), (some (22, true)), .bin .add (.t 25) (.c (.int .i64 1))⟩,
 ⟨(some 27), (some (22, true)), .ixs 1 (.t 23) (.t 26)⟩,
 ⟨(some 28), (some (22, true)), .ld1 (.t 27)⟩,
 ⟨(some 29), (some (22, true)), .bin .eql (.t 28) (.c (.int .i64 (-772)))⟩,
 ⟨(some 30), none, .pick (.t 22) (.t 29) (.c (.bool false))⟩,
 ⟨(some 4), none, .mv (.t 30)⟩])
def c28_2 : AC := .seq a28_2 .ret
theorem e28_2 : WC C call L c28_2 F S Q = WC C call L a28_2 F S (thenK (fun F S => WC C call L .ret F S Q) Q) := id rfl
def a28_1 : AC := (.reg [⟨(some 6), none, .mv (.t 0)⟩,
 ⟨(some 7), none, .mv (.t 0)⟩,
 ⟨(some 8), none, .len 0 (.t 7)⟩,
 ⟨(some 9), none, .bin .add (.t 8) (.c (.int .i64 2))⟩,
 ⟨(some 10), none, .slc 1 (.t 6) none (some (.t 9)) none⟩,
 ⟨(some 5), none, .mv (.t 10)⟩])
def c28_1 : AC := .seq a28_1 c28_2
theorem e28_1 : WC C call L c28_1 F S Q = WC C call L a28_1 F S (thenK (fun F S => WC C call L c28_2 F S Q) Q) := id rfl
def a28 : AC := (.reg [⟨(some 4), none, .mv (.c (.bool false))⟩])
def c28 : AC := .seq a28 c28_1
theorem e28 : WC C call L c28 F S Q = WC C call L a28 F S (thenK (fun F S => WC C call L c28_1 F S Q) Q) := id rfl
theorem fn28 : (ctxE Try.prog kpN env).fn 28 = some ⟨31, [.tmp 4], c28, .plain⟩ := by kernel_rfl
def a30_5 : AC := (.block 1 (.seq (.draw [(⟨(some 17), none, .mv (.t 0)⟩, [], [0]),
 (⟨(some 18), none, .mv (.t 5)⟩, [], [5]),
 (⟨(some 19), none, .ixs 1 (.t 17) (.t 18)⟩, [0, 1], [17, 18]),
 (⟨(some 20), none, .ld1 (.t 19)⟩, [2, 0, 1], [19]),
 (⟨(some 21), none, .mv (.t 1)⟩, [], [1]),
 (⟨(some 22), none, .mv (.t 5)⟩, [], [5]),
 (⟨(some 23), none, .ixs 1 (.t 21) (.t 22)⟩, [4, 5], [21, 22]),
 (⟨(some 24), none, .ld1 (.t 23)⟩, [6, 4, 5], [23]),
 (⟨(some 25), none, .bin .neq (.t 20) (.t 24)⟩, [3, 2, 0, 1, 7, 6, 4, 5], [20, 24])]) (.cond (.t 25) (.seq (.reg [⟨(some 4), none, .mv (.c (.bool false))⟩]) .ret) .skip)))
def c30_5 : AC := .seq a30_5 (.reg [⟨(some 15), none, .mv (.t 5)⟩,
 ⟨(some 16), none, .bin .add (.t 15) (.c (.int .i64 1))⟩,
 ⟨(some 5), none, .mv (.t 16)⟩])
theorem e30_5 : WC C call L c30_5 F S Q = WC C call L a30_5 F S (thenK (fun F S => WC C call L (.reg [⟨(some 15), none, .mv (.t 5)⟩,
 ⟨(some 16), none, .bin .add (.t 15) (.c (.int .i64 1))⟩,
 ⟨(some 5), none, .mv (.t 16)⟩]) F S Q) Q) := id rfl
def a30_4 : AC := (.seq (.reg [⟨(some 11), none, .mv (.t 5)⟩,
 ⟨(some 12), none, .mv (.t 0)⟩,
 ⟨(some 13), none, .len 0 (.t 12)⟩,
 ⟨(some 14), none, .bin .lss (.t 11) (.t 13)⟩]) (.cond (.t 14) .skip (.exit 0)))
def c30_4 : AC := .seq a30_4 c30_5
theorem e30_4 : WC C call L c30_4 F S Q = WC C call L a30_4 F S (thenK (fun F S => WC C call L c30_5 F S Q) Q) := id rfl
def a30_3 : AC := (.block 0 (.loop [0, 1, 4, 5, 10, 14, 25] c30_4))
def c30_3 : AC := a30_3
theorem e30_3 : WC C call L c30_3 F S Q = WC C call L a30_3 F S Q := id rfl
def a30_2 : AC := (.seq (.reg [⟨(some 5), none, .mv (.c (.int .i64 0))⟩]) c30_3)
def c30_2 : AC := .seq a30_2 (.seq (.reg [⟨(some 4), none, .mv (.c (.bool true))⟩]) .ret)
theorem e30_2 : WC C call L c30_2 F S Q = WC C call L a30_2 F S (thenK (fun F S => WC C call L (.seq (.reg [⟨(some 4), none, .mv (.c (.bool true))⟩]) .ret) F S Q) Q) := id rfl
def a30_1 : AC := (.seq (.reg [⟨(some 6), none, .mv (.t 0)⟩,
 ⟨(some 7), none, .len 0 (.t 6)⟩,
 ⟨(some 8), none, .mv (.t 1)⟩,
 ⟨(some 9), none, .len 0 (.t 8)⟩,
 ⟨(some 10), none, .bin .neq (.t 7) (.t 9)⟩]) (.cond (.t 10) (.seq (.reg [⟨(some 4), none, .mv (.c (.bool false))⟩]) .ret) .skip))
def c30_1 : AC := .seq a30_1 c30_2
theorem e30_1 : WC C call L c30_1 F S Q = WC C call L a30_1 F S (thenK (fun F S => WC C call L c30_2 F S Q) Q) := id rfl
def a30 : AC := (.reg [⟨(some 4), none, .mv (.c (.bool false))⟩])
def c30 : AC := .seq a30 c30_1
theorem e30 : WC C call L c30 F S Q = WC C call L a30 F S (thenK (fun F S => WC C call L c30_1 F S Q) Q) := id rfl
theorem fn30 : (ctxE Try.prog kpN env).fn 30 = some ⟨26, [.tmp 4], c30, .plain⟩ := by kernel_rfl
def a33_1 : AC := (.reg [⟨(some 5), none, .fad 3 (.t 2)⟩,
 ⟨(some 6), none, .ld1 (.t 5)⟩,
 ⟨(some 7), none, .mv (.t 1)⟩,
 ⟨(some 8), none, .bin .gtr (.t 6) (.t 7)⟩,
 ⟨(some 9), none, .mv (.t 8)⟩,
 ⟨(some 10), (some (9, false)), .fad 4 (.t 2)⟩,
 ⟨(some 11), (some (9, false)), .ld1 (.t 10)⟩,
 ⟨(some 12), (some (9, false)), .len 0 (.t 11)⟩,
 ⟨(some 13), (some (9, false)), .bin .gtr (.t 12) (.c (.int .i64 70000))⟩,
 ⟨(some 14), none, .pick (.t 9) (.c (.bool true)) (.t 13)⟩,
 ⟨(some 15), none, .mv (.t 14)⟩,
 ⟨(some 16), (some (15, false)), .fad 5 (.t 2)⟩,
 ⟨(some 17), (some (15, false)), .ld1 (.t 16)⟩,
 ⟨(some 18), (some (15, false)), .len 0 (.t 17)⟩,
 ⟨(some 19), (some (15, false)), .bin .gtr (.t 18) (.c (.int .i64 70000))⟩,
 ⟨(some 20), none, .pick (.t 15) (.c (.bool true)) (.t 19)⟩,
 ⟨(some 4), none, .mv (.t 20)⟩])
def c33_1 : AC := .seq a33_1 .ret
theorem e33_1 : WC C call L c33_1 F S Q = WC C call L a33_1 F S (thenK (fun F S => WC C call L .ret F S Q) Q) := id rfl
def a33 : AC := (.reg [⟨(some 2), none, .box (.t 0)⟩,
 ⟨(some 4), none, .mv (.c (.bool false))⟩])
def c33 : AC := .seq a33 c33_1
theorem e33 : WC C call L c33 F S Q = WC C call L a33 F S (thenK (fun F S => WC C call L c33_1 F S Q) Q) := id rfl
theorem fn33 : (ctxE Try.prog kpN env).fn 33 = some ⟨21, [.tmp 4], c33, .plain⟩ := by kernel_rfl
def a34_1 : AC := (.reg [⟨(some 6), none, .ldn 6 (.t 1)⟩,
 ⟨(some 7), none, .call 108 [(.t 6)]⟩,
 ⟨(some 5), none, .mv (.t 7)⟩,
 ⟨(some 8), none, .xt 0 (.t 5)⟩,
 ⟨(some 9), none, .xt 1 (.t 5)⟩,
 ⟨(some 3), none, .mv (.t 8)⟩,
 ⟨(some 4), none, .mv (.t 9)⟩])
def c34_1 : AC := .seq a34_1 (.seq (.reg [⟨(some 10), none, .mv (.t 4)⟩,
 ⟨(some 11), none, .bin .eql (.t 10) (.c (.int .i64 0))⟩,
 ⟨(some 2), none, .mv (.t 11)⟩]) .ret)
theorem e34_1 : WC C call L c34_1 F S Q = WC C call L a34_1 F S (thenK (fun F S => WC C call L (.seq (.reg [⟨(some 10), none, .mv (.t 4)⟩,
 ⟨(some 11), none, .bin .eql (.t 10) (.c (.int .i64 0))⟩,
 ⟨(some 2), none, .mv (.t 11)⟩]) .ret) F S Q) Q) := id rfl
def a34 : AC := (.reg [⟨(some 1), none, .box (.t 0)⟩,
 ⟨(some 2), none, .mv (.c (.bool false))⟩])
def c34 : AC := .seq a34 c34_1
theorem e34 : WC C call L c34 F S Q = WC C call L a34 F S (thenK (fun F S => WC C call L c34_1 F S Q) Q) := id rfl
theorem fn34 : (ctxE Try.prog kpN env).fn 34 = some ⟨12, [.tmp 2], c34, .plain⟩ := by kernel_rfl
def a40_2 : AC := (.reg [⟨(some 18), none, .ldn 6 (.t 3)⟩,
 ⟨(some 19), none, .mv (.t 7)⟩,
 ⟨(some 20), none, .mv (.t 2)⟩,
 ⟨(some 21), none, .call 41 [(.t 18), (.t 19), (.t 20)]⟩,
 ⟨(some 17), none, .mv (.t 21)⟩,
 ⟨(some 22), none, .xt 0 (.t 17)⟩,
 ⟨(some 23), none, .xt 1 (.t 17)⟩,
 ⟨(some 9), none, .mv (.t 22)⟩,
 ⟨(some 10), none, .mv (.t 23)⟩])
def c40_2 : AC := .seq a40_2 (.seq (.reg [⟨(some 24), none, .mv (.t 10)⟩,
 ⟨(some 6), none, .mv (.t 24)⟩]) .ret)
theorem e40_2 : WC C call L c40_2 F S Q = WC C call L a40_2 F S (thenK (fun F S => WC C call L (.seq (.reg [⟨(some 24), none, .mv (.t 10)⟩,
 ⟨(some 6), none, .mv (.t 24)⟩]) .ret) F S Q) Q) := id rfl
def a40_1 : AC := (.reg [⟨(some 12), none, .ldn 6 (.t 3)⟩,
 ⟨(some 13), none, .mv (.t 1)⟩,
 ⟨(some 14), none, .call 41 [(.t 12), (.c (.int .i64 0)), (.t 13)]⟩,
 ⟨(some 11), none, .mv (.t 14)⟩,
 ⟨(some 15), none, .xt 0 (.t 11)⟩,
 ⟨(some 16), none, .xt 1 (.t 11)⟩,
 ⟨(some 7), none, .mv (.t 15)⟩,
 ⟨(some 8), none, .mv (.t 16)⟩])
def c40_1 : AC := .seq a40_1 c40_2
theorem e40_1 : WC C call L c40_1 F S Q = WC C call L a40_1 F S (thenK (fun F S => WC C call L c40_2 F S Q) Q) := id rfl
def a40 : AC := (.reg [⟨(some 3), none, .box (.t 0)⟩,
 ⟨(some 6), none, .mv (.c .nils)⟩])
def c40 : AC := .seq a40 c40_1
theorem e40 : WC C call L c40 F S Q = WC C call L a40 F S (thenK (fun F S => WC C call L c40_1 F S Q) Q) := id rfl
theorem fn40 : (ctxE Try.prog kpN env).fn 40 = some ⟨25, [.tmp 6], c40, .plain⟩ := by kernel_rfl
def a41_7 : AC := (.draw [(⟨(some 19), none, .mv (.t 8)⟩, [], [8]),
 (⟨(some 20), none, .fad 5 (.t 3)⟩, [], [3]),
 (⟨(some 21), none, .ld1 (.t 20)⟩, [1], [20]),
 (⟨(some 22), none, .mv (.t 1)⟩, [], [1]),
 (⟨(some 23), none, .fad 1 (.t 3)⟩, [], [3]),
 (⟨(some 24), none, .ld1 (.t 23)⟩, [4], [23]),
 (⟨(some 25), none, .bin .mul (.t 22) (.t 24)⟩, [3, 5, 4], [22, 24]),
 (⟨(some 26), none, .mv (.t 2)⟩, [], [2]),
 (⟨(some 27), none, .mv (.t 9)⟩, [], [9]),
 (⟨(some 28), none, .ixs 1 (.t 26) (.t 27)⟩, [7, 8], [26, 27]),
 (⟨(some 29), none, .ld1 (.t 28)⟩, [9, 7, 8], [28]),
 (⟨(some 30), none, .bin .add (.t 25) (.t 29)⟩, [6, 3, 5, 4, 10, 9, 7, 8], [25, 29]),
 (⟨(some 31), none, .ixs 1 (.t 21) (.t 30)⟩, [2, 1, 11, 6, 3, 5, 4, 10, 9, 7, 8], [21, 30]),
 (⟨(some 32), none, .ld1 (.t 31)⟩, [12, 2, 1, 11, 6, 3, 5, 4, 10, 9, 7, 8], [31]),
 (⟨(some 33), none, .bslice 1 1 [(.int .i64 0)] [(0, 1, (.t 32))]⟩, [13, 12, 2, 1, 11, 6, 3, 5, 4, 10, 9, 7, 8], [32]),
 (⟨(some 34), none, .app 1 8 (.t 19) (.t 33)⟩, [0, 14, 13, 12, 2, 1, 11, 6, 3, 5, 4, 10, 9, 7, 8], [19, 33]),
 (⟨(some 8), none, .mv (.t 34)⟩, [15, 0, 14, 13, 12, 2, 1, 11, 6, 3, 5, 4, 10, 9, 7, 8], [34])])
def c41_7 : AC := a41_7
theorem e41_7 : WC C call L c41_7 F S Q = WC C call L a41_7 F S Q := id rfl
def a41_6 : AC := (.cond (.t 18) c41_7 .skip)
def c41_6 : AC := a41_6
theorem e41_6 : WC C call L c41_6 F S Q = WC C call L a41_6 F S Q := id rfl
def a41_8 : AC := (.draw [(⟨(some 35), none, .fad 4 (.t 3)⟩, [], [3]),
 (⟨(some 36), none, .ld1 (.t 35)⟩, [0], [35]),
 (⟨(some 37), none, .mv (.t 1)⟩, [], [1]),
 (⟨(some 38), none, .fad 1 (.t 3)⟩, [], [3]),
 (⟨(some 39), none, .ld1 (.t 38)⟩, [3], [38]),
 (⟨(some 40), none, .bin .mul (.t 37) (.t 39)⟩, [2, 4, 3], [37, 39]),
 (⟨(some 41), none, .mv (.t 2)⟩, [], [2]),
 (⟨(some 42), none, .mv (.t 9)⟩, [], [9]),
 (⟨(some 43), none, .ixs 1 (.t 41) (.t 42)⟩, [6, 7], [41, 42]),
 (⟨(some 44), none, .ld1 (.t 43)⟩, [8, 6, 7], [43]),
 (⟨(some 45), none, .bin .add (.t 40) (.t 44)⟩, [5, 2, 4, 3, 9, 8, 6, 7], [40, 44]),
 (⟨(some 46), none, .ixs 1 (.t 36) (.t 45)⟩, [1, 0, 10, 5, 2, 4, 3, 9, 8, 6, 7], [36, 45]),
 (⟨(some 47), none, .ld1 (.t 46)⟩, [11, 1, 0, 10, 5, 2, 4, 3, 9, 8, 6, 7], [46]),
 (⟨(some 1), none, .mv (.t 47)⟩, [12, 11, 1, 0, 10, 5, 2, 4, 3, 9, 8, 6, 7], [47])])
def c41_8 : AC := a41_8
theorem e41_8 : WC C call L c41_8 F S Q = WC C call L a41_8 F S Q := id rfl
def a41_5 : AC := (.block 1 (.seq (.seq (.reg [⟨(some 16), none, .fad 0 (.t 3)⟩,
 ⟨(some 17), none, .ld1 (.t 16)⟩,
 ⟨(some 18), none, .bin .eql (.t 17) (.c (.int .i64 2))⟩]) c41_6) c41_8))
def c41_5 : AC := .seq a41_5 (.reg [⟨(some 14), none, .mv (.t 9)⟩,
 ⟨(some 15), none, .bin .add (.t 14) (.c (.int .i64 1))⟩,
 ⟨(some 9), none, .mv (.t 15)⟩])
theorem e41_5 : WC C call L c41_5 F S Q = WC C call L a41_5 F S (thenK (fun F S => WC C call L (.reg [⟨(some 14), none, .mv (.t 9)⟩,
 ⟨(some 15), none, .bin .add (.t 14) (.c (.int .i64 1))⟩,
 ⟨(some 9), none, .mv (.t 15)⟩]) F S Q) Q) := id rfl
def a41_4 : AC := (.seq (.reg [⟨(some 10), none, .mv (.t 9)⟩,
 ⟨(some 11), none, .mv (.t 2)⟩,
 ⟨(some 12), none, .len 0 (.t 11)⟩,
 ⟨(some 13), none, .bin .lss (.t 10) (.t 12)⟩]) (.cond (.t 13) .skip (.exit 0)))
def c41_4 : AC := .seq a41_4 c41_5
theorem e41_4 : WC C call L c41_4 F S Q = WC C call L a41_4 F S (thenK (fun F S => WC C call L c41_5 F S Q) Q) := id rfl
def a41_3 : AC := (.block 0 (.loop [0, 1, 2, 3, 6, 7, 8, 9, 13, 18, 50] c41_4))
def c41_3 : AC := a41_3
theorem e41_3 : WC C call L c41_3 F S Q = WC C call L a41_3 F S Q := id rfl
def a41_10 : AC := (.cond (.t 50) (.reg [⟨(some 51), none, .fad 5 (.t 3)⟩,
 ⟨(some 52), none, .ld1 (.t 51)⟩,
 ⟨(some 53), none, .mv (.t 1)⟩,
 ⟨(some 54), none, .ixs 1 (.t 52) (.t 53)⟩,
 ⟨(some 55), none, .ld1 (.t 54)⟩,
 ⟨(some 56), none, .bslice 1 1 [(.int .i64 0)] [(0, 1, (.t 55))]⟩,
 ⟨(some 8), none, .mv (.t 56)⟩]) .skip)
def c41_10 : AC := a41_10
theorem e41_10 : WC C call L c41_10 F S Q = WC C call L a41_10 F S Q := id rfl
def a41_9 : AC := (.seq (.reg [⟨(some 48), none, .fad 0 (.t 3)⟩,
 ⟨(some 49), none, .ld1 (.t 48)⟩,
 ⟨(some 50), none, .bin .eql (.t 49) (.c (.int .i64 1))⟩]) c41_10)
def c41_9 : AC := .seq a41_9 (.seq (.reg [⟨(some 57), none, .mv (.t 1)⟩,
 ⟨(some 58), none, .mv (.t 8)⟩,
 ⟨(some 6), none, .mv (.t 57)⟩,
 ⟨(some 7), none, .mv (.t 58)⟩]) .ret)
theorem e41_9 : WC C call L c41_9 F S Q = WC C call L a41_9 F S (thenK (fun F S => WC C call L (.seq (.reg [⟨(some 57), none, .mv (.t 1)⟩,
 ⟨(some 58), none, .mv (.t 8)⟩,
 ⟨(some 6), none, .mv (.t 57)⟩,
 ⟨(some 7), none, .mv (.t 58)⟩]) .ret) F S Q) Q) := id rfl
def a41_2 : AC := (.seq (.reg [⟨(some 9), none, .mv (.c (.int .i64 0))⟩]) c41_3)
def c41_2 : AC := .seq a41_2 c41_9
theorem e41_2 : WC C call L c41_2 F S Q = WC C call L a41_2 F S (thenK (fun F S => WC C call L c41_9 F S Q) Q) := id rfl
def a41_1 : AC := (.reg [⟨(some 8), none, .mv (.c .nils)⟩])
def c41_1 : AC := .seq a41_1 c41_2
theorem e41_1 : WC C call L c41_1 F S Q = WC C call L a41_1 F S (thenK (fun F S => WC C call L c41_2 F S Q) Q) := id rfl
def a41 : AC := (.reg [⟨(some 3), none, .box (.t 0)⟩,
 ⟨(some 6), none, .mv (.c (.int .i64 0))⟩,
 ⟨(some 7), none, .mv (.c .nils)⟩])
def c41 : AC := .seq a41 c41_1
theorem e41 : WC C call L c41 F S Q = WC C call L a41 F S (thenK (fun F S => WC C call L c41_1 F S Q) Q) := id rfl
theorem fn41 : (ctxE Try.prog kpN env).fn 41 = some ⟨59, [.tmp 6, .tmp 7], c41, .plain⟩ := by kernel_rfl
def a45_2 : AC := (.reg [⟨(some 8), none, .bslice 1 0 [] []⟩,
 ⟨(some 9), none, .fad 5 (.t 1)⟩,
 ⟨(some 10), none, .ld1 (.t 9)⟩,
 ⟨(some 11), none, .app 1 8 (.t 8) (.t 10)⟩,
 ⟨(some 12), none, .fad 5 (.t 1)⟩,
 ⟨none, none, .st 1 (.t 12) (.t 11)⟩])
def c45_2 : AC := .seq a45_2 (.seq (.reg [⟨(some 13), none, .ldn 6 (.t 1)⟩,
 ⟨none, none, .st 6 (.t 2) (.t 13)⟩]) .ret)
theorem e45_2 : WC C call L c45_2 F S Q = WC C call L a45_2 F S (thenK (fun F S => WC C call L (.seq (.reg [⟨(some 13), none, .ldn 6 (.t 1)⟩,
 ⟨none, none, .st 6 (.t 2) (.t 13)⟩]) .ret) F S Q) Q) := id rfl
def a45_1 : AC := (.reg [⟨(some 3), none, .bslice 1 0 [] []⟩,
 ⟨(some 4), none, .fad 4 (.t 1)⟩,
 ⟨(some 5), none, .ld1 (.t 4)⟩,
 ⟨(some 6), none, .app 1 8 (.t 3) (.t 5)⟩,
 ⟨(some 7), none, .fad 4 (.t 1)⟩,
 ⟨none, none, .st 1 (.t 7) (.t 6)⟩])
def c45_1 : AC := .seq a45_1 c45_2
theorem e45_1 : WC C call L c45_1 F S Q = WC C call L a45_1 F S (thenK (fun F S => WC C call L c45_2 F S Q) Q) := id rfl
def a45 : AC := (.reg [⟨(some 1), none, .box (.t 0)⟩,
 ⟨(some 2), none, .alloc [(.int .i64 0), (.int .i64 0), (.int .i64 0), (.int .i64 0), .nils, .nils]⟩])
def c45 : AC := .seq a45 c45_1
theorem e45 : WC C call L c45 F S Q = WC C call L a45 F S (thenK (fun F S => WC C call L c45_1 F S Q) Q) := id rfl
theorem fn45 : (ctxE Try.prog kpN env).fn 45 = some ⟨14, [.cell 2 (some 6)], c45, .plain⟩ := by kernel_rfl
def a49_1 : AC := (.reg [⟨(some 5), none, .fad 0 (.t 2)⟩,
 ⟨(some 6), none, .ld1 (.t 5)⟩,
 ⟨(some 7), none, .fad 0 (.t 3)⟩,
 ⟨(some 8), none, .ld1 (.t 7)⟩,
 ⟨(some 9), none, .bin .eql (.t 6) (.t 8)⟩,
 ⟨(some 10), none, .mv (.t 9)⟩,
 ⟨(some 11), (some (10, true)), .fad 1 (.t 2)⟩,
 ⟨(some 12), (some (10, true)), .ld1 (.t 11)⟩,
 ⟨(some 13), (some (10, true)), .fad 1 (.t 3)⟩,
 ⟨(some 14), (some (10, true)), .ld1 (.t 13)⟩,
 ⟨(some 15), (some (10, true)), .bin .eql (.t 12) (.t 14)⟩,
 ⟨(some 16), none, .pick (.t 10) (.t 15) (.c (.bool false))⟩,
 ⟨(some 17), none, .mv (.t 16)⟩,
 ⟨(some 18), (some (17, true)), .fad 2 (.t 2)⟩,
 ⟨(some 19), (some (17, true)), .ld1 (.t 18)⟩,
 ⟨(some 20), (some (17, true)), .fad 2 (.t 3)⟩,
 ⟨(some 21), (some (17, true)), .ld1 (.t 20)⟩,
 ⟨(some 22), (some (17, true)), .bin .eql (.t 19) (.t 21)⟩,
 ⟨(some 23), none, .pick (.t 17) (.t 22) (.c (.bool false))⟩,
 ⟨(some 24), none, .mv (.t 23)⟩,
 ⟨(some 25), (some (24, true)), .fad 3 (.t 2)⟩,
 ⟨(some 26), (some (24, true)), .ld1 (.t 25)⟩,
 ⟨(some 27), (some (24, true)), .fad 3 (.t 3)⟩,
 ⟨(some 28), (some (24, true)), .ld1 (.t 27)⟩,
 ⟨(some 29), (some (24, true)), .bin .eql (.t 26) (.t 28)⟩,
 ⟨(some 30), none, .pick (.t 24) (.t 29) (.c (.bool false))⟩,
 ⟨(some 31), none, .mv (.t 30)⟩,
 ⟨(some 32), (some (31, true)), .fad 4 (.t 2)⟩,
 ⟨(some 33), (some (31, true)), .ld1 (.t 32)⟩,
 ⟨(some 34), (some (31, true)), .fad 4 (.t 3)⟩,
 ⟨(some 35), (some (31, true)), .ld1 (.t 34)⟩,
 ⟨(some 36), (some (31, true)), .call 30 [(.t 33), (.t 35)]⟩,
 ⟨(some 37), none, .pick (.t 31) (.t 36) (.c (.bool false))⟩,
 ⟨(some 38), none, .mv (.t 37)⟩,
 ⟨(some 39), (some (38, true)), .fad 5 (.t 2)⟩,
 ⟨(some 40), (some (38, true)), .ld1 (.t 39)⟩,
 ⟨(some 41), (some (38, true)), .fad 5 (.t 3)⟩,
 ⟨(some 42), (some (38, true)), .ld1 (.t 41)⟩,
 ⟨(some 43), (some (38, true)), .call 30 [(.t 40), (.t 42)]⟩,
 ⟨(some 44), none, .pick (.t 38) (.t 43) (.c (.bool false))⟩,
 ⟨(some 4), none, .mv (.t 44)⟩])
def c49_1 : AC := .seq a49_1 .ret
theorem e49_1 : WC C call L c49_1 F S Q = WC C call L a49_1 F S (thenK (fun F S => WC C call L .ret F S Q) Q) := id rfl
def a49 : AC := (.reg [⟨(some 2), none, .box (.t 0)⟩,
 ⟨(some 3), none, .box (.t 1)⟩,
 ⟨(some 4), none, .mv (.c (.bool false))⟩])
def c49 : AC := .seq a49 c49_1
theorem e49 : WC C call L c49 F S Q = WC C call L a49 F S (thenK (fun F S => WC C call L c49_1 F S Q) Q) := id rfl
theorem fn49 : (ctxE Try.prog kpN env).fn 49 = some ⟨45, [.tmp 4], c49, .plain⟩ := by kernel_rfl
def a57_1 : AC := (.reg [⟨(some 10), none, .ldn 6 (.t 2)⟩,
 ⟨(some 11), none, .mv (.t 1)⟩,
 ⟨(some 12), none, .call 120 [(.t 10), (.c (.int .i64 0)), (.t 11)]⟩,
 ⟨(some 9), none, .mv (.t 12)⟩,
 ⟨(some 13), none, .xt 0 (.t 9)⟩,
 ⟨(some 14), none, .xt 1 (.t 9)⟩,
 ⟨(some 15), none, .xt 2 (.t 9)⟩,
 ⟨(some 6), none, .mv (.t 13)⟩,
 ⟨(some 7), none, .mv (.t 14)⟩,
 ⟨(some 8), none, .mv (.t 15)⟩])
def c57_1 : AC := .seq a57_1 (.seq (.reg [⟨(some 16), none, .mv (.t 7)⟩,
 ⟨(some 17), none, .mv (.t 8)⟩,
 ⟨(some 4), none, .mv (.t 16)⟩,
 ⟨(some 5), none, .mv (.t 17)⟩]) .ret)
theorem e57_1 : WC C call L c57_1 F S Q = WC C call L a57_1 F S (thenK (fun F S => WC C call L (.seq (.reg [⟨(some 16), none, .mv (.t 7)⟩,
 ⟨(some 17), none, .mv (.t 8)⟩,
 ⟨(some 4), none, .mv (.t 16)⟩,
 ⟨(some 5), none, .mv (.t 17)⟩]) .ret) F S Q) Q) := id rfl
def a57 : AC := (.reg [⟨(some 2), none, .box (.t 0)⟩,
 ⟨(some 4), none, .mv (.c .nils)⟩,
 ⟨(some 5), none, .mv (.c (.int .i64 0))⟩])
def c57 : AC := .seq a57 c57_1
theorem e57 : WC C call L c57 F S Q = WC C call L a57 F S (thenK (fun F S => WC C call L c57_1 F S Q) Q) := id rfl
theorem fn57 : (ctxE Try.prog kpN env).fn 57 = some ⟨18, [.tmp 4, .tmp 5], c57, .plain⟩ := by kernel_rfl
def a61_6 : AC := (.block 1 (.seq (.reg [⟨(some 22), none, .mv (.t 0)⟩,
 ⟨(some 23), none, .mv (.t 6)⟩,
 ⟨(some 24), none, .ixs 1 (.t 22) (.t 23)⟩,
 ⟨(some 25), none, .ld1 (.t 24)⟩,
 ⟨(some 26), none, .bin .lss (.t 25) (.c (.int .i64 0))⟩,
 ⟨(some 27), none, .mv (.t 26)⟩,
 ⟨(some 28), (some (27, false)), .mv (.t 0)⟩,
 ⟨(some 29), (some (27, false)), .mv (.t 6)⟩,
 ⟨(some 30), (some (27, false)), .ixs 1 (.t 28) (.t 29)⟩,
 ⟨(some 31), (some (27, false)), .ld1 (.t 30)⟩,
 ⟨(some 32), (some (27, false)), .mv (.t 1)⟩,
 ⟨(some 33), (some (27, false)), .bin .geq (.t 31) (.t 32)⟩,
 ⟨(some 34), none, .pick (.t 27) (.c (.bool true)) (.t 33)⟩]) (.cond (.t 34) (.seq (.reg [⟨(some 35), none, .mv (.t 6)⟩,
 ⟨(some 4), none, .mv (.t 35)⟩,
 ⟨(some 5), none, .mv (.c (.int .i64 10))⟩]) .ret) .skip)))
def c61_6 : AC := .seq a61_6 (.reg [⟨(some 20), none, .mv (.t 6)⟩,
 ⟨(some 21), none, .bin .add (.t 20) (.c (.int .i64 1))⟩,
 ⟨(some 6), none, .mv (.t 21)⟩])
theorem e61_6 : WC C call L c61_6 F S Q = WC C call L a61_6 F S (thenK (fun F S => WC C call L (.reg [⟨(some 20), none, .mv (.t 6)⟩,
 ⟨(some 21), none, .bin .add (.t 20) (.c (.int .i64 1))⟩,
 ⟨(some 6), none, .mv (.t 21)⟩]) F S Q) Q) := id rfl
def a61_5 : AC := (.seq (.reg [⟨(some 16), none, .mv (.t 6)⟩,
 ⟨(some 17), none, .mv (.t 0)⟩,
 ⟨(some 18), none, .len 0 (.t 17)⟩,
 ⟨(some 19), none, .bin .lss (.t 16) (.t 18)⟩]) (.cond (.t 19) .skip (.exit 0)))
def c61_5 : AC := .seq a61_5 c61_6
theorem e61_5 : WC C call L c61_5 F S Q = WC C call L a61_5 F S (thenK (fun F S => WC C call L c61_6 F S Q) Q) := id rfl
def a61_4 : AC := (.block 0 (.loop [0, 1, 4, 5, 6, 12, 15, 19, 34] c61_5))
def c61_4 : AC := a61_4
theorem e61_4 : WC C call L c61_4 F S Q = WC C call L a61_4 F S Q := id rfl
def a61_3 : AC := (.seq (.reg [⟨(some 6), none, .mv (.c (.int .i64 0))⟩]) c61_4)
def c61_3 : AC := .seq a61_3 (.seq (.reg [⟨(some 4), none, .mv (.c (.int .i64 0))⟩,
 ⟨(some 5), none, .mv (.c (.int .i64 0))⟩]) .ret)
theorem e61_3 : WC C call L c61_3 F S Q = WC C call L a61_3 F S (thenK (fun F S => WC C call L (.seq (.reg [⟨(some 4), none, .mv (.c (.int .i64 0))⟩,
 ⟨(some 5), none, .mv (.c (.int .i64 0))⟩]) .ret) F S Q) Q) := id rfl
def a61_2 : AC := (.seq (.reg [⟨(some 13), none, .mv (.t 0)⟩,
 ⟨(some 14), none, .len 0 (.t 13)⟩,
 ⟨(some 15), none, .bin .gtr (.t 14) (.c (.int .i64 4096))⟩]) (.cond (.t 15) (.seq (.reg [⟨(some 4), none, .mv (.c (.int .i64 0))⟩,
 ⟨(some 5), none, .mv (.c (.int .i64 2))⟩]) .ret) .skip))
def c61_2 : AC := .seq a61_2 c61_3
theorem e61_2 : WC C call L c61_2 F S Q = WC C call L a61_2 F S (thenK (fun F S => WC C call L c61_3 F S Q) Q) := id rfl
def a61_1 : AC := (.seq (.reg [⟨(some 7), none, .mv (.t 1)⟩,
 ⟨(some 8), none, .bin .lss (.t 7) (.c (.int .i64 1))⟩,
 ⟨(some 9), none, .mv (.t 8)⟩,
 ⟨(some 10), (some (9, false)), .mv (.t 1)⟩,
 ⟨(some 11), (some (9, false)), .bin .gtr (.t 10) (.c (.int .i64 64))⟩,
 ⟨(some 12), none, .pick (.t 9) (.c (.bool true)) (.t 11)⟩]) (.cond (.t 12) (.seq (.reg [⟨(some 4), none, .mv (.c (.int .i64 0))⟩,
 ⟨(some 5), none, .mv (.c (.int .i64 1))⟩]) .ret) .skip))
def c61_1 : AC := .seq a61_1 c61_2
theorem e61_1 : WC C call L c61_1 F S Q = WC C call L a61_1 F S (thenK (fun F S => WC C call L c61_2 F S Q) Q) := id rfl
def a61 : AC := (.reg [⟨(some 4), none, .mv (.c (.int .i64 0))⟩,
 ⟨(some 5), none, .mv (.c (.int .i64 0))⟩])
def c61 : AC := .seq a61 c61_1
theorem e61 : WC C call L c61 F S Q = WC C call L a61 F S (thenK (fun F S => WC C call L c61_1 F S Q) Q) := id rfl
theorem fn61 : (ctxE Try.prog kpN env).fn 61 = some ⟨36, [.tmp 4, .tmp 5], c61, .plain⟩ := by kernel_rfl
def a89_2 : AC := (.cond (.t 7) (.seq (.reg [⟨(some 4), none, .mv (.c (.int .i64 0))⟩,
 ⟨(some 5), none, .mv (.c (.int .i64 1))⟩]) .ret) (.seq (.reg [⟨(some 12), none, .mv (.t 0)⟩,
 ⟨(some 13), none, .len 0 (.t 12)⟩,
 ⟨(some 14), none, .bin .gtr (.t 13) (.c (.int .i64 4096))⟩,
 ⟨(some 11), none, .mv (.t 14)⟩]) (.cond (.t 11) (.seq (.reg [⟨(some 4), none, .mv (.c (.int .i64 0))⟩,
 ⟨(some 5), none, .mv (.c (.int .i64 2))⟩]) .ret) .skip)))
def c89_2 : AC := a89_2
theorem e89_2 : WC C call L c89_2 F S Q = WC C call L a89_2 F S Q := id rfl
def a89_8 : AC := (.reg [⟨(some 20), none, .mv (.t 0)⟩,
 ⟨(some 21), none, .mv (.t 6)⟩,
 ⟨(some 22), none, .ixs 1 (.t 20) (.t 21)⟩,
 ⟨(some 23), none, .ld1 (.t 22)⟩,
 ⟨(some 24), none, .bin .lss (.t 23) (.c (.int .i64 0))⟩,
 ⟨(some 25), none, .mv (.t 24)⟩,
 ⟨(some 26), (some (25, false)), .mv (.t 0)⟩,
 ⟨(some 27), (some (25, false)), .mv (.t 6)⟩,
 ⟨(some 28), (some (25, false)), .ixs 1 (.t 26) (.t 27)⟩,
 ⟨(some 29), (some (25, false)), .ld1 (.t 28)⟩,
 ⟨(some 30), (some (25, false)), .mv (.t 1)⟩,
 ⟨(some 31), (some (25, false)), .bin .geq (.t 29) (.t 30)⟩,
 ⟨(some 32), none, .pick (.t 25) (.c (.bool true)) (.t 31)⟩])
def c89_8 : AC := .seq a89_8 (.cond (.t 32) (.seq (.reg [⟨(some 33), none, .mv (.t 6)⟩,
 ⟨(some 4), none, .mv (.t 33)⟩,
 ⟨(some 5), none, .mv (.c (.int .i64 10))⟩]) .ret) .skip)
theorem e89_8 : WC C call L c89_8 F S Q = WC C call L a89_8 F S (thenK (fun F S => WC C call L (.cond (.t 32) (.seq (.reg [⟨(some 33), none, .mv (.t 6)⟩,
 ⟨(some 4), none, .mv (.t 33)⟩,
 ⟨(some 5), none, .mv (.c (.int .i64 10))⟩]) .ret) .skip) F S Q) Q) := id rfl
def a89_7 : AC := (.block 2 (.seq (.reg [⟨(some 19), none, .mv (.t 17)⟩,
 ⟨(some 6), none, .mv (.t 19)⟩]) c89_8))
def c89_7 : AC := .seq a89_7 (.reg [⟨(some 34), none, .bin .add (.t 17) (.c (.int .i64 1))⟩,
 ⟨(some 17), none, .mv (.t 34)⟩])
theorem e89_7 : WC C call L c89_7 F S Q = WC C call L a89_7 F S (thenK (fun F S => WC C call L (.reg [⟨(some 34), none, .bin .add (.t 17) (.c (.int .i64 1))⟩,
 ⟨(some 17), none, .mv (.t 34)⟩]) F S Q) Q) := id rfl
def a89_6 : AC := (.cond (.t 18) .skip (.exit 1))
def c89_6 : AC := .seq a89_6 c89_7
theorem e89_6 : WC C call L c89_6 F S Q = WC C call L a89_6 F S (thenK (fun F S => WC C call L c89_7 F S Q) Q) := id rfl
def a89_5 : AC := (.reg [⟨(some 18), none, .bin .lss (.t 17) (.t 16)⟩])
def c89_5 : AC := .seq a89_5 c89_6
theorem e89_5 : WC C call L c89_5 F S Q = WC C call L a89_5 F S (thenK (fun F S => WC C call L c89_6 F S Q) Q) := id rfl
def a89_4 : AC := (.block 1 (.loop [0, 1, 4, 5, 6, 7, 11, 16, 17, 18, 32] c89_5))
def c89_4 : AC := a89_4
theorem e89_4 : WC C call L c89_4 F S Q = WC C call L a89_4 F S Q := id rfl
def a89_3 : AC := (.seq (.reg [⟨(some 15), none, .mv (.t 0)⟩,
 ⟨(some 16), none, .len 0 (.t 15)⟩,
 ⟨(some 17), none, .mv (.c (.int .i64 0))⟩]) c89_4)
def c89_3 : AC := .seq a89_3 (.seq (.reg [⟨(some 4), none, .mv (.c (.int .i64 0))⟩,
 ⟨(some 5), none, .mv (.c (.int .i64 0))⟩]) .ret)
theorem e89_3 : WC C call L c89_3 F S Q = WC C call L a89_3 F S (thenK (fun F S => WC C call L (.seq (.reg [⟨(some 4), none, .mv (.c (.int .i64 0))⟩,
 ⟨(some 5), none, .mv (.c (.int .i64 0))⟩]) .ret) F S Q) Q) := id rfl
def a89_1 : AC := (.block 0 (.seq (.reg [⟨(some 8), none, .mv (.t 1)⟩,
 ⟨(some 9), none, .call 146 [(.t 8)]⟩,
 ⟨(some 10), none, .un .not (.t 9)⟩,
 ⟨(some 7), none, .mv (.t 10)⟩]) c89_2))
def c89_1 : AC := .seq a89_1 c89_3
theorem e89_1 : WC C call L c89_1 F S Q = WC C call L a89_1 F S (thenK (fun F S => WC C call L c89_3 F S Q) Q) := id rfl
def a89 : AC := (.reg [⟨(some 4), none, .mv (.c (.int .i64 0))⟩,
 ⟨(some 5), none, .mv (.c (.int .i64 0))⟩])
def c89 : AC := .seq a89 c89_1
theorem e89 : WC C call L c89 F S Q = WC C call L a89 F S (thenK (fun F S => WC C call L c89_1 F S Q) Q) := id rfl
theorem fn89 : (ctxE Try.prog kpN env).fn 89 = some ⟨35, [.tmp 4, .tmp 5], c89, .plain⟩ := by kernel_rfl
def a90_1 : AC := (.seq (.reg [⟨(some 3), none, .mv (.t 0)⟩,
 ⟨(some 4), none, .eq false .sl (.t 3) (.c .nils)⟩]) (.cond (.t 4) (.seq (.reg [⟨(some 2), none, .mv (.c .nils)⟩]) .ret) .skip))
def c90_1 : AC := .seq a90_1 (.seq (.reg [⟨(some 5), none, .bslice 1 0 [] []⟩,
 ⟨(some 6), none, .mv (.t 0)⟩,
 ⟨(some 7), none, .app 1 8 (.t 5) (.t 6)⟩,
 ⟨(some 2), none, .mv (.t 7)⟩]) .ret)
theorem e90_1 : WC C call L c90_1 F S Q = WC C call L a90_1 F S (thenK (fun F S => WC C call L (.seq (.reg [⟨(some 5), none, .bslice 1 0 [] []⟩,
 ⟨(some 6), none, .mv (.t 0)⟩,
 ⟨(some 7), none, .app 1 8 (.t 5) (.t 6)⟩,
 ⟨(some 2), none, .mv (.t 7)⟩]) .ret) F S Q) Q) := id rfl
def a90 : AC := (.reg [⟨(some 2), none, .mv (.c .nils)⟩])
def c90 : AC := .seq a90 c90_1
theorem e90 : WC C call L c90 F S Q = WC C call L a90 F S (thenK (fun F S => WC C call L c90_1 F S Q) Q) := id rfl
theorem fn90 : (ctxE Try.prog kpN env).fn 90 = some ⟨8, [.tmp 2], c90, .plain⟩ := by kernel_rfl
def a91_7 : AC := (.reg [⟨(some 24), none, .fad 0 (.t 2)⟩,
 ⟨(some 25), none, .ld1 (.t 24)⟩,
 ⟨(some 26), none, .bin .eql (.t 25) (.c (.int .i64 1))⟩,
 ⟨(some 27), none, .mv (.t 26)⟩,
 ⟨(some 28), (some (27, true)), .fad 2 (.t 3)⟩,
 ⟨(some 29), (some (27, true)), .ld1 (.t 28)⟩,
 ⟨(some 30), (some (27, true)), .len 0 (.t 29)⟩,
 ⟨(some 31), (some (27, true)), .bin .eql (.t 30) (.c (.int .i64 0))⟩,
 ⟨(some 32), none, .pick (.t 27) (.t 31) (.c (.bool false))⟩,
 ⟨(some 33), none, .mv (.t 32)⟩,
 ⟨(some 34), (some (33, true)), .ldn 8 (.t 2)⟩,
 ⟨(some 35), (some (33, true)), .fad 0 (.t 6)⟩,
 ⟨(some 36), (some (33, true)), .ld1 (.t 35)⟩,
 ⟨(some 37), (some (33, true)), .call 148 [(.t 34), (.t 36)]⟩,
 ⟨(some 38), none, .pick (.t 33) (.t 37) (.c (.bool false))⟩,
 ⟨(some 5), none, .mv (.t 38)⟩])
def c91_7 : AC := a91_7
theorem e91_7 : WC C call L c91_7 F S Q = WC C call L a91_7 F S Q := id rfl
def a91_6 : AC := (.reg [⟨(some 6), none, .alloc [.nils]⟩,
 ⟨none, none, .st 1 (.t 6) (.t 23)⟩])
def c91_6 : AC := .seq a91_6 c91_7
theorem e91_6 : WC C call L c91_6 F S Q = WC C call L a91_6 F S (thenK (fun F S => WC C call L c91_7 F S Q) Q) := id rfl
def a91_11 : AC := (.reg [⟨(some 42), none, .fad 0 (.t 2)⟩,
 ⟨(some 43), none, .ld1 (.t 42)⟩,
 ⟨(some 44), none, .bin .eql (.t 43) (.c (.int .i64 2))⟩,
 ⟨(some 45), none, .mv (.t 44)⟩,
 ⟨(some 46), (some (45, true)), .fad 2 (.t 3)⟩,
 ⟨(some 47), (some (45, true)), .ld1 (.t 46)⟩,
 ⟨(some 48), (some (45, true)), .len 0 (.t 47)⟩,
 ⟨(some 49), (some (45, true)), .fad 1 (.t 3)⟩,
 ⟨(some 50), (some (45, true)), .ld1 (.t 49)⟩,
 ⟨(some 51), (some (45, true)), .len 0 (.t 50)⟩,
 ⟨(some 52), (some (45, true)), .bin .add (.t 48) (.t 51)⟩,
 ⟨(some 53), (some (45, true)), .bin .eql (.t 52) (.c (.int .i64 0))⟩,
 ⟨(some 54), none, .pick (.t 45) (.t 53) (.c (.bool false))⟩,
 ⟨(some 5), none, .mv (.t 54)⟩])
def c91_11 : AC := a91_11
def a91_10 : AC := (.reg [⟨(some 7), none, .alloc []⟩,
 ⟨none, none, .st 0 (.t 7) (.t 41)⟩])
def c91_10 : AC := .seq a91_10 c91_11
def a91_16 : AC := (.reg [⟨(some 67), none, .fad 0 (.t 2)⟩,
 ⟨(some 68), none, .ld1 (.t 67)⟩,
 ⟨(some 69), none, .bin .eql (.t 68) (.c (.int .i64 2))⟩,
 ⟨(some 70), none, .mv (.t 69)⟩,
 ⟨(some 71), (some (70, true)), .fad 1 (.t 3)⟩,
 ⟨(some 72), (some (70, true)), .ld1 (.t 71)⟩,
 ⟨(some 73), (some (70, true)), .len 0 (.t 72)⟩,
 ⟨(some 74), (some (70, true)), .bin .eql (.t 73) (.c (.int .i64 0))⟩,
 ⟨(some 75), none, .pick (.t 70) (.t 74) (.c (.bool false))⟩,
 ⟨(some 76), none, .mv (.t 75)⟩,
 ⟨(some 77), (some (76, true)), .mv (.t 10)⟩,
 ⟨(some 78), (some (76, true)), .bin .eql (.t 77) (.c (.int .i64 0))⟩,
 ⟨(some 79), none, .pick (.t 76) (.t 78) (.c (.bool false))⟩,
 ⟨(some 5), none, .mv (.t 79)⟩])
def c91_16 : AC := a91_16
def a91_15 : AC := (.reg [⟨(some 59), none, .fad 0 (.t 8)⟩,
 ⟨(some 60), none, .ld1 (.t 59)⟩,
 ⟨(some 61), none, .fad 2 (.t 2)⟩,
 ⟨(some 62), none, .fad 1 (.t 61)⟩,
 ⟨(some 63), none, .ld1 (.t 62)⟩,
 ⟨(some 64), none, .call 89 [(.t 60), (.t 63)]⟩,
 ⟨(some 58), none, .mv (.t 64)⟩,
 ⟨(some 65), none, .xt 0 (.t 58)⟩,
 ⟨(some 66), none, .xt 1 (.t 58)⟩,
 ⟨(some 9), none, .mv (.t 65)⟩,
 ⟨(some 10), none, .mv (.t 66)⟩])
def c91_15 : AC := .seq a91_15 c91_16
def a91_14 : AC := (.reg [⟨(some 8), none, .alloc [.nils]⟩,
 ⟨none, none, .st 1 (.t 8) (.t 57)⟩])
def c91_14 : AC := .seq a91_14 c91_15
def a91_13 : AC := (.cond (.t 56) c91_14 .skip)
def c91_13 : AC := a91_13
def a91_12 : AC := (.reg [⟨(some 55), none, .tas 221 (.agg [.nils]) true (.t 20)⟩,
 ⟨(some 56), none, .xt 1 (.t 55)⟩,
 ⟨(some 57), none, .xt 0 (.t 55)⟩])
def c91_12 : AC := .seq a91_12 c91_13
def a91_9 : AC := (.cond (.t 40) c91_10 c91_12)
def c91_9 : AC := a91_9
def a91_8 : AC := (.reg [⟨(some 39), none, .tas 219 (.agg []) true (.t 20)⟩,
 ⟨(some 40), none, .xt 1 (.t 39)⟩,
 ⟨(some 41), none, .xt 0 (.t 39)⟩])
def c91_8 : AC := .seq a91_8 c91_9
def a91_5 : AC := (.cond (.t 22) c91_6 c91_8)
def c91_5 : AC := a91_5
theorem e91_5 : WC C call L c91_5 F S Q = WC C call L a91_5 F S Q := id rfl
def a91_4 : AC := (.block 0 (.seq (.reg [⟨(some 21), none, .tas 216 (.agg [.nils]) true (.t 20)⟩,
 ⟨(some 22), none, .xt 1 (.t 21)⟩,
 ⟨(some 23), none, .xt 0 (.t 21)⟩]) c91_5))
def c91_4 : AC := a91_4
theorem e91_4 : WC C call L c91_4 F S Q = WC C call L a91_4 F S Q := id rfl
def a91_17 : AC := (.seq (.reg [⟨(some 80), none, .mv (.t 5)⟩,
 ⟨(some 81), none, .un .not (.t 80)⟩]) (.cond (.t 81) (.seq (.reg [⟨(some 4), none, .mv (.c (.int .i64 100))⟩]) .ret) .skip))
def c91_17 : AC := .seq a91_17 (.seq (.reg [⟨(some 4), none, .mv (.c (.int .i64 0))⟩]) .ret)
theorem e91_17 : WC C call L c91_17 F S Q = WC C call L a91_17 F S (thenK (fun F S => WC C call L (.seq (.reg [⟨(some 4), none, .mv (.c (.int .i64 0))⟩]) .ret) F S Q) Q) := id rfl
def a91_3 : AC := (.seq (.reg [⟨(some 19), none, .ldn 3 (.t 3)⟩,
 ⟨(some 20), none, .call 147 [(.t 19)]⟩]) c91_4)
def c91_3 : AC := .seq a91_3 c91_17
theorem e91_3 : WC C call L c91_3 F S Q = WC C call L a91_3 F S (thenK (fun F S => WC C call L c91_17 F S Q) Q) := id rfl
def a91_2 : AC := (.reg [⟨(some 5), none, .mv (.c (.bool false))⟩])
def c91_2 : AC := .seq a91_2 c91_3
theorem e91_2 : WC C call L c91_2 F S Q = WC C call L a91_2 F S (thenK (fun F S => WC C call L c91_3 F S Q) Q) := id rfl
def a91_1 : AC := (.seq (.reg [⟨(some 11), none, .fad 0 (.t 2)⟩,
 ⟨(some 12), none, .ld1 (.t 11)⟩,
 ⟨(some 13), none, .bin .neq (.t 12) (.c (.int .i64 1))⟩,
 ⟨(some 14), none, .mv (.t 13)⟩,
 ⟨(some 15), (some (14, true)), .fad 0 (.t 2)⟩,
 ⟨(some 16), (some (14, true)), .ld1 (.t 15)⟩,
 ⟨(some 17), (some (14, true)), .bin .neq (.t 16) (.c (.int .i64 2))⟩,
 ⟨(some 18), none, .pick (.t 14) (.t 17) (.c (.bool false))⟩]) (.cond (.t 18) (.seq (.reg [⟨(some 4), none, .mv (.c (.int .i64 30))⟩]) .ret) .skip))
def c91_1 : AC := .seq a91_1 c91_2
theorem e91_1 : WC C call L c91_1 F S Q = WC C call L a91_1 F S (thenK (fun F S => WC C call L c91_2 F S Q) Q) := id rfl
def a91 : AC := (.reg [⟨(some 2), none, .box (.t 0)⟩,
 ⟨(some 3), none, .box (.t 1)⟩,
 ⟨(some 4), none, .mv (.c (.int .i64 0))⟩])
def c91 : AC := .seq a91 c91_1
theorem e91 : WC C call L c91 F S Q = WC C call L a91 F S (thenK (fun F S => WC C call L c91_1 F S Q) Q) := id rfl
theorem fn91 : (ctxE Try.prog kpN env).fn 91 = some ⟨82, [.tmp 4], c91, .plain⟩ := by kernel_rfl
def a97_1 : AC := (.reg [⟨(some 5), none, .bslice 1 0 [] []⟩,
 ⟨(some 6), none, .mv (.t 0)⟩,
 ⟨(some 7), none, .app 1 8 (.t 5) (.t 6)⟩,
 ⟨(some 8), none, .mv (.t 1)⟩,
 ⟨(some 9), none, .app 1 8 (.t 7) (.t 8)⟩,
 ⟨(some 4), none, .mv (.t 9)⟩])
def c97_1 : AC := .seq a97_1 .ret
theorem e97_1 : WC C call L c97_1 F S Q = WC C call L a97_1 F S (thenK (fun F S => WC C call L .ret F S Q) Q) := id rfl
def a97 : AC := (.reg [⟨(some 4), none, .mv (.c .nils)⟩])
def c97 : AC := .seq a97 c97_1
theorem e97 : WC C call L c97 F S Q = WC C call L a97 F S (thenK (fun F S => WC C call L c97_1 F S Q) Q) := id rfl
theorem fn97 : (ctxE Try.prog kpN env).fn 97 = some ⟨10, [.tmp 4], c97, .plain⟩ := by kernel_rfl
def a101_7 : AC := (.draw [(⟨(some 16), none, .mv (.t 0)⟩, [], [0]),
 (⟨(some 17), none, .mv (.t 5)⟩, [], [5]),
 (⟨(some 18), none, .ixs 1 (.t 16) (.t 17)⟩, [0, 1], [16, 17]),
 (⟨(some 19), none, .ld1 (.t 18)⟩, [2, 0, 1], [18]),
 (⟨(some 20), none, .mv (.t 1)⟩, [], [1]),
 (⟨(some 21), none, .mv (.t 5)⟩, [], [5]),
 (⟨(some 22), none, .ixs 1 (.t 20) (.t 21)⟩, [4, 5], [20, 21]),
 (⟨(some 23), none, .ld1 (.t 22)⟩, [6, 4, 5], [22]),
 (⟨(some 24), none, .bin .neq (.t 19) (.t 23)⟩, [3, 2, 0, 1, 7, 6, 4, 5], [19, 23])])
def c101_7 : AC := .seq a101_7 (.cond (.t 24) (.seq (.reg [⟨(some 4), none, .mv (.c (.bool false))⟩]) .ret) .skip)
theorem e101_7 : WC C call L c101_7 F S Q = WC C call L a101_7 F S (thenK (fun F S => WC C call L (.cond (.t 24) (.seq (.reg [⟨(some 4), none, .mv (.c (.bool false))⟩]) .ret) .skip) F S Q) Q) := id rfl
def a101_6 : AC := (.block 1 (.seq (.reg [⟨(some 15), none, .mv (.t 13)⟩,
 ⟨(some 5), none, .mv (.t 15)⟩]) c101_7))
def c101_6 : AC := .seq a101_6 (.reg [⟨(some 25), none, .bin .add (.t 13) (.c (.int .i64 1))⟩,
 ⟨(some 13), none, .mv (.t 25)⟩])
theorem e101_6 : WC C call L c101_6 F S Q = WC C call L a101_6 F S (thenK (fun F S => WC C call L (.reg [⟨(some 25), none, .bin .add (.t 13) (.c (.int .i64 1))⟩,
 ⟨(some 13), none, .mv (.t 25)⟩]) F S Q) Q) := id rfl
def a101_5 : AC := (.cond (.t 14) .skip (.exit 0))
def c101_5 : AC := .seq a101_5 c101_6
theorem e101_5 : WC C call L c101_5 F S Q = WC C call L a101_5 F S (thenK (fun F S => WC C call L c101_6 F S Q) Q) := id rfl
def a101_4 : AC := (.reg [⟨(some 14), none, .bin .lss (.t 13) (.t 12)⟩])
def c101_4 : AC := .seq a101_4 c101_5
theorem e101_4 : WC C call L c101_4 F S Q = WC C call L a101_4 F S (thenK (fun F S => WC C call L c101_5 F S Q) Q) := id rfl
def a101_3 : AC := (.block 0 (.loop [0, 1, 4, 5, 10, 12, 13, 14, 24] c101_4))
def c101_3 : AC := a101_3
theorem e101_3 : WC C call L c101_3 F S Q = WC C call L a101_3 F S Q := id rfl
def a101_2 : AC := (.seq (.reg [⟨(some 11), none, .mv (.t 0)⟩,
 ⟨(some 12), none, .len 0 (.t 11)⟩,
 ⟨(some 13), none, .mv (.c (.int .i64 0))⟩]) c101_3)
def c101_2 : AC := .seq a101_2 (.seq (.reg [⟨(some 4), none, .mv (.c (.bool true))⟩]) .ret)
theorem e101_2 : WC C call L c101_2 F S Q = WC C call L a101_2 F S (thenK (fun F S => WC C call L (.seq (.reg [⟨(some 4), none, .mv (.c (.bool true))⟩]) .ret) F S Q) Q) := id rfl
def a101_1 : AC := (.seq (.reg [⟨(some 6), none, .mv (.t 0)⟩,
 ⟨(some 7), none, .len 0 (.t 6)⟩,
 ⟨(some 8), none, .mv (.t 1)⟩,
 ⟨(some 9), none, .len 0 (.t 8)⟩,
 ⟨(some 10), none, .bin .neq (.t 7) (.t 9)⟩]) (.cond (.t 10) (.seq (.reg [⟨(some 4), none, .mv (.c (.bool false))⟩]) .ret) .skip))
def c101_1 : AC := .seq a101_1 c101_2
theorem e101_1 : WC C call L c101_1 F S Q = WC C call L a101_1 F S (thenK (fun F S => WC C call L c101_2 F S Q) Q) := id rfl
def a101 : AC := (.reg [⟨(some 4), none, .mv (.c (.bool false))⟩])
def c101 : AC := .seq a101 c101_1
theorem e101 : WC C call L c101 F S Q = WC C call L a101 F S (thenK (fun F S => WC C call L c101_1 F S Q) Q) := id rfl
theorem fn101 : (ctxE Try.prog kpN env).fn 101 = some ⟨26, [.tmp 4], c101, .plain⟩ := by kernel_rfl
def a108_7 : AC := (.cond (.t 53) (.reg [⟨(some 54), none, .fad 3 (.t 1)⟩,
 ⟨(some 55), none, .ld1 (.t 54)⟩,
 ⟨(some 56), none, .fad 1 (.t 1)⟩,
 ⟨(some 57), none, .ld1 (.t 56)⟩,
 ⟨(some 58), none, .bin .mul (.t 55) (.t 57)⟩,
 ⟨(some 4), none, .mv (.t 58)⟩]) .skip)
def c108_7 : AC := a108_7
theorem e108_7 : WC C call L c108_7 F S Q = WC C call L a108_7 F S Q := id rfl
def a108_12 : AC := (.block 1 (.seq (.draw [(⟨(some 82), none, .fad 4 (.t 1)⟩, [], [1]),
 (⟨(some 83), none, .ld1 (.t 82)⟩, [0], [82]),
 (⟨(some 84), none, .mv (.t 5)⟩, [], [5]),
 (⟨(some 85), none, .ixs 1 (.t 83) (.t 84)⟩, [1, 0, 2], [83, 84]),
 (⟨(some 86), none, .ld1 (.t 85)⟩, [3, 1, 0, 2], [85]),
 (⟨(some 87), none, .bin .lss (.t 86) (.c (.int .i64 0))⟩, [4, 3, 1, 0, 2], [86]),
 (⟨(some 88), none, .mv (.t 87)⟩, [5, 4, 3, 1, 0, 2], [87]),
 (⟨(some 89), (some (88, false)), .fad 4 (.t 1)⟩, [6, 5, 4, 3, 1, 0, 2], [88, 1]),
 (⟨(some 90), (some (88, false)), .ld1 (.t 89)⟩, [7, 6, 5, 4, 3, 1, 0, 2], [88, 89]),
 (⟨(some 91), (some (88, false)), .mv (.t 5)⟩, [6, 5, 4, 3, 1, 0, 2], [88, 5]),
 (⟨(some 92), (some (88, false)), .ixs 1 (.t 90) (.t 91)⟩, [8, 7, 9, 6, 5, 4, 3, 1, 0, 2], [88, 90, 91]),
 (⟨(some 93), (some (88, false)), .ld1 (.t 92)⟩, [10, 8, 7, 9, 6, 5, 4, 3, 1, 0, 2], [88, 92]),
 (⟨(some 94), (some (88, false)), .fad 3 (.t 1)⟩, [6, 5, 4, 3, 1, 0, 2], [88, 1]),
 (⟨(some 95), (some (88, false)), .ld1 (.t 94)⟩, [12, 6, 5, 4, 3, 1, 0, 2], [88, 94]),
 (⟨(some 96), (some (88, false)), .bin .geq (.t 93) (.t 95)⟩, [11, 10, 8, 7, 9, 13, 12, 6, 5, 4, 3, 1, 0, 2], [88, 93, 95]),
 (⟨(some 97), none, .pick (.t 88) (.c (.bool true)) (.t 96)⟩, [14, 11, 10, 8, 7, 9, 13, 12, 6, 5, 4, 3, 1, 0, 2], [88, 96])]) (.cond (.t 97) (.seq (.reg [⟨(some 98), none, .mv (.t 5)⟩,
 ⟨(some 2), none, .mv (.t 98)⟩,
 ⟨(some 3), none, .mv (.c (.int .i64 32))⟩]) .ret) .skip)))
def c108_12 : AC := .seq a108_12 (.reg [⟨(some 80), none, .mv (.t 5)⟩,
 ⟨(some 81), none, .bin .add (.t 80) (.c (.int .i64 1))⟩,
 ⟨(some 5), none, .mv (.t 81)⟩])
theorem e108_12 : WC C call L c108_12 F S Q = WC C call L a108_12 F S (thenK (fun F S => WC C call L (.reg [⟨(some 80), none, .mv (.t 5)⟩,
 ⟨(some 81), none, .bin .add (.t 80) (.c (.int .i64 1))⟩,
 ⟨(some 5), none, .mv (.t 81)⟩]) F S Q) Q) := id rfl
def a108_11 : AC := (.seq (.reg [⟨(some 75), none, .mv (.t 5)⟩,
 ⟨(some 76), none, .fad 4 (.t 1)⟩,
 ⟨(some 77), none, .ld1 (.t 76)⟩,
 ⟨(some 78), none, .len 0 (.t 77)⟩,
 ⟨(some 79), none, .bin .lss (.t 75) (.t 78)⟩]) (.cond (.t 79) .skip (.exit 0)))
def c108_11 : AC := .seq a108_11 c108_12
theorem e108_11 : WC C call L c108_11 F S Q = WC C call L a108_11 F S (thenK (fun F S => WC C call L c108_12 F S Q) Q) := id rfl
def a108_10 : AC := (.block 0 (.loop [0, 1, 2, 3, 4, 5, 6, 14, 22, 40, 48, 53, 74, 79, 97, 103, 121] c108_11))
def c108_10 : AC := a108_10
theorem e108_10 : WC C call L c108_10 F S Q = WC C call L a108_10 F S Q := id rfl
def a108_16 : AC := (.block 3 (.seq (.draw [(⟨(some 106), none, .fad 5 (.t 1)⟩, [], [1]),
 (⟨(some 107), none, .ld1 (.t 106)⟩, [0], [106]),
 (⟨(some 108), none, .mv (.t 6)⟩, [], [6]),
 (⟨(some 109), none, .ixs 1 (.t 107) (.t 108)⟩, [1, 0, 2], [107, 108]),
 (⟨(some 110), none, .ld1 (.t 109)⟩, [3, 1, 0, 2], [109]),
 (⟨(some 111), none, .bin .lss (.t 110) (.c (.int .i64 0))⟩, [4, 3, 1, 0, 2], [110]),
 (⟨(some 112), none, .mv (.t 111)⟩, [5, 4, 3, 1, 0, 2], [111]),
 (⟨(some 113), (some (112, false)), .fad 5 (.t 1)⟩, [6, 5, 4, 3, 1, 0, 2], [112, 1]),
 (⟨(some 114), (some (112, false)), .ld1 (.t 113)⟩, [7, 6, 5, 4, 3, 1, 0, 2], [112, 113]),
 (⟨(some 115), (some (112, false)), .mv (.t 6)⟩, [6, 5, 4, 3, 1, 0, 2], [112, 6]),
 (⟨(some 116), (some (112, false)), .ixs 1 (.t 114) (.t 115)⟩, [8, 7, 9, 6, 5, 4, 3, 1, 0, 2], [112, 114, 115]),
 (⟨(some 117), (some (112, false)), .ld1 (.t 116)⟩, [10, 8, 7, 9, 6, 5, 4, 3, 1, 0, 2], [112, 116]),
 (⟨(some 118), (some (112, false)), .fad 2 (.t 1)⟩, [6, 5, 4, 3, 1, 0, 2], [112, 1]),
 (⟨(some 119), (some (112, false)), .ld1 (.t 118)⟩, [12, 6, 5, 4, 3, 1, 0, 2], [112, 118]),
 (⟨(some 120), (some (112, false)), .bin .geq (.t 117) (.t 119)⟩, [11, 10, 8, 7, 9, 13, 12, 6, 5, 4, 3, 1, 0, 2], [112, 117, 119]),
 (⟨(some 121), none, .pick (.t 112) (.c (.bool true)) (.t 120)⟩, [14, 11, 10, 8, 7, 9, 13, 12, 6, 5, 4, 3, 1, 0, 2], [112, 120])]) (.cond (.t 121) (.seq (.reg [⟨(some 122), none, .mv (.t 6)⟩,
 ⟨(some 2), none, .mv (.t 122)⟩,
 ⟨(some 3), none, .mv (.c (.int .i64 33))⟩]) .ret) .skip)))
def c108_16 : AC := .seq a108_16 (.reg [⟨(some 104), none, .mv (.t 6)⟩,
 ⟨(some 105), none, .bin .add (.t 104) (.c (.int .i64 1))⟩,
 ⟨(some 6), none, .mv (.t 105)⟩])
theorem e108_16 : WC C call L c108_16 F S Q = WC C call L a108_16 F S (thenK (fun F S => WC C call L (.reg [⟨(some 104), none, .mv (.t 6)⟩,
 ⟨(some 105), none, .bin .add (.t 104) (.c (.int .i64 1))⟩,
 ⟨(some 6), none, .mv (.t 105)⟩]) F S Q) Q) := id rfl
def a108_15 : AC := (.seq (.reg [⟨(some 99), none, .mv (.t 6)⟩,
 ⟨(some 100), none, .fad 5 (.t 1)⟩,
 ⟨(some 101), none, .ld1 (.t 100)⟩,
 ⟨(some 102), none, .len 0 (.t 101)⟩,
 ⟨(some 103), none, .bin .lss (.t 99) (.t 102)⟩]) (.cond (.t 103) .skip (.exit 2)))
def c108_15 : AC := .seq a108_15 c108_16
theorem e108_15 : WC C call L c108_15 F S Q = WC C call L a108_15 F S (thenK (fun F S => WC C call L c108_16 F S Q) Q) := id rfl
def a108_14 : AC := (.block 2 (.loop [0, 1, 2, 3, 4, 5, 6, 14, 22, 40, 48, 53, 74, 79, 97, 103, 121] c108_15))
def c108_14 : AC := a108_14
theorem e108_14 : WC C call L c108_14 F S Q = WC C call L a108_14 F S Q := id rfl
def a108_13 : AC := (.seq (.reg [⟨(some 6), none, .mv (.c (.int .i64 0))⟩]) c108_14)
def c108_13 : AC := .seq a108_13 (.seq (.reg [⟨(some 2), none, .mv (.c (.int .i64 0))⟩,
 ⟨(some 3), none, .mv (.c (.int .i64 0))⟩]) .ret)
theorem e108_13 : WC C call L c108_13 F S Q = WC C call L a108_13 F S (thenK (fun F S => WC C call L (.seq (.reg [⟨(some 2), none, .mv (.c (.int .i64 0))⟩,
 ⟨(some 3), none, .mv (.c (.int .i64 0))⟩]) .ret) F S Q) Q) := id rfl
def a108_9 : AC := (.seq (.reg [⟨(some 5), none, .mv (.c (.int .i64 0))⟩]) c108_10)
def c108_9 : AC := .seq a108_9 c108_13
theorem e108_9 : WC C call L c108_9 F S Q = WC C call L a108_9 F S (thenK (fun F S => WC C call L c108_13 F S Q) Q) := id rfl
def a108_8 : AC := (.seq (.reg [⟨(some 59), none, .fad 4 (.t 1)⟩,
 ⟨(some 60), none, .ld1 (.t 59)⟩,
 ⟨(some 61), none, .len 0 (.t 60)⟩,
 ⟨(some 62), none, .fad 3 (.t 1)⟩,
 ⟨(some 63), none, .ld1 (.t 62)⟩,
 ⟨(some 64), none, .fad 1 (.t 1)⟩,
 ⟨(some 65), none, .ld1 (.t 64)⟩,
 ⟨(some 66), none, .bin .mul (.t 63) (.t 65)⟩,
 ⟨(some 67), none, .bin .neq (.t 61) (.t 66)⟩,
 ⟨(some 68), none, .mv (.t 67)⟩,
 ⟨(some 69), (some (68, false)), .fad 5 (.t 1)⟩,
 ⟨(some 70), (some (68, false)), .ld1 (.t 69)⟩,
 ⟨(some 71), (some (68, false)), .len 0 (.t 70)⟩,
 ⟨(some 72), (some (68, false)), .mv (.t 4)⟩,
 ⟨(some 73), (some (68, false)), .bin .neq (.t 71) (.t 72)⟩,
 ⟨(some 74), none, .pick (.t 68) (.c (.bool true)) (.t 73)⟩]) (.cond (.t 74) (.seq (.reg [⟨(some 2), none, .mv (.c (.int .i64 0))⟩,
 ⟨(some 3), none, .mv (.c (.int .i64 31))⟩]) .ret) .skip))
def c108_8 : AC := .seq a108_8 c108_9
theorem e108_8 : WC C call L c108_8 F S Q = WC C call L a108_8 F S (thenK (fun F S => WC C call L c108_9 F S Q) Q) := id rfl
def a108_6 : AC := (.seq (.reg [⟨(some 51), none, .fad 0 (.t 1)⟩,
 ⟨(some 52), none, .ld1 (.t 51)⟩,
 ⟨(some 53), none, .bin .eql (.t 52) (.c (.int .i64 2))⟩]) c108_7)
def c108_6 : AC := .seq a108_6 c108_8
theorem e108_6 : WC C call L c108_6 F S Q = WC C call L a108_6 F S (thenK (fun F S => WC C call L c108_8 F S Q) Q) := id rfl
def a108_5 : AC := (.reg [⟨(some 49), none, .fad 3 (.t 1)⟩,
 ⟨(some 50), none, .ld1 (.t 49)⟩,
 ⟨(some 4), none, .mv (.t 50)⟩])
def c108_5 : AC := .seq a108_5 c108_6
theorem e108_5 : WC C call L c108_5 F S Q = WC C call L a108_5 F S (thenK (fun F S => WC C call L c108_6 F S Q) Q) := id rfl
def a108_4 : AC := (.seq (.reg [⟨(some 41), none, .fad 3 (.t 1)⟩,
 ⟨(some 42), none, .ld1 (.t 41)⟩,
 ⟨(some 43), none, .bin .lss (.t 42) (.c (.int .i64 1))⟩,
 ⟨(some 44), none, .mv (.t 43)⟩,
 ⟨(some 45), (some (44, false)), .fad 3 (.t 1)⟩,
 ⟨(some 46), (some (44, false)), .ld1 (.t 45)⟩,
 ⟨(some 47), (some (44, false)), .bin .gtr (.t 46) (.c (.int .i64 1024))⟩,
 ⟨(some 48), none, .pick (.t 44) (.c (.bool true)) (.t 47)⟩]) (.cond (.t 48) (.seq (.reg [⟨(some 2), none, .mv (.c (.int .i64 0))⟩,
 ⟨(some 3), none, .mv (.c (.int .i64 3))⟩]) .ret) .skip))
def c108_4 : AC := .seq a108_4 c108_5
theorem e108_4 : WC C call L c108_4 F S Q = WC C call L a108_4 F S (thenK (fun F S => WC C call L c108_5 F S Q) Q) := id rfl
def a108_3 : AC := (.seq (.reg [⟨(some 23), none, .fad 0 (.t 1)⟩,
 ⟨(some 24), none, .ld1 (.t 23)⟩,
 ⟨(some 25), none, .bin .eql (.t 24) (.c (.int .i64 1))⟩,
 ⟨(some 26), none, .mv (.t 25)⟩,
 ⟨(some 27), (some (26, true)), .fad 2 (.t 1)⟩,
 ⟨(some 28), (some (26, true)), .ld1 (.t 27)⟩,
 ⟨(some 29), (some (26, true)), .bin .neq (.t 28) (.c (.int .i64 2))⟩,
 ⟨(some 30), none, .pick (.t 26) (.t 29) (.c (.bool false))⟩,
 ⟨(some 31), none, .mv (.t 30)⟩,
 ⟨(some 32), (some (31, false)), .fad 2 (.t 1)⟩,
 ⟨(some 33), (some (31, false)), .ld1 (.t 32)⟩,
 ⟨(some 34), (some (31, false)), .bin .lss (.t 33) (.c (.int .i64 1))⟩,
 ⟨(some 35), none, .pick (.t 31) (.c (.bool true)) (.t 34)⟩,
 ⟨(some 36), none, .mv (.t 35)⟩,
 ⟨(some 37), (some (36, false)), .fad 2 (.t 1)⟩,
 ⟨(some 38), (some (36, false)), .ld1 (.t 37)⟩,
 ⟨(some 39), (some (36, false)), .bin .gtr (.t 38) (.c (.int .i64 64))⟩,
 ⟨(some 40), none, .pick (.t 36) (.c (.bool true)) (.t 39)⟩]) (.cond (.t 40) (.seq (.reg [⟨(some 2), none, .mv (.c (.int .i64 0))⟩,
 ⟨(some 3), none, .mv (.c (.int .i64 33))⟩]) .ret) .skip))
def c108_3 : AC := .seq a108_3 c108_4
theorem e108_3 : WC C call L c108_3 F S Q = WC C call L a108_3 F S (thenK (fun F S => WC C call L c108_4 F S Q) Q) := id rfl
def a108_2 : AC := (.seq (.reg [⟨(some 15), none, .fad 1 (.t 1)⟩,
 ⟨(some 16), none, .ld1 (.t 15)⟩,
 ⟨(some 17), none, .bin .lss (.t 16) (.c (.int .i64 1))⟩,
 ⟨(some 18), none, .mv (.t 17)⟩,
 ⟨(some 19), (some (18, false)), .fad 1 (.t 1)⟩,
 ⟨(some 20), (some (18, false)), .ld1 (.t 19)⟩,
 ⟨(some 21), (some (18, false)), .bin .gtr (.t 20) (.c (.int .i64 64))⟩,
 ⟨(some 22), none, .pick (.t 18) (.c (.bool true)) (.t 21)⟩]) (.cond (.t 22) (.seq (.reg [⟨(some 2), none, .mv (.c (.int .i64 0))⟩,
 ⟨(some 3), none, .mv (.c (.int .i64 1))⟩]) .ret) .skip))
def c108_2 : AC := .seq a108_2 c108_3
theorem e108_2 : WC C call L c108_2 F S Q = WC C call L a108_2 F S (thenK (fun F S => WC C call L c108_3 F S Q) Q) := id rfl
def a108_1 : AC := (.seq (.reg [⟨(some 7), none, .fad 0 (.t 1)⟩,
 ⟨(some 8), none, .ld1 (.t 7)⟩,
 ⟨(some 9), none, .bin .neq (.t 8) (.c (.int .i64 1))⟩,
 ⟨(some 10), none, .mv (.t 9)⟩,
 ⟨(some 11), (some (10, true)), .fad 0 (.t 1)⟩,
 ⟨(some 12), (some (10, true)), .ld1 (.t 11)⟩,
 ⟨(some 13), (some (10, true)), .bin .neq (.t 12) (.c (.int .i64 2))⟩,
 ⟨(some 14), none, .pick (.t 10) (.t 13) (.c (.bool false))⟩]) (.cond (.t 14) (.seq (.reg [⟨(some 2), none, .mv (.c (.int .i64 0))⟩,
 ⟨(some 3), none, .mv (.c (.int .i64 30))⟩]) .ret) .skip))
def c108_1 : AC := .seq a108_1 c108_2
theorem e108_1 : WC C call L c108_1 F S Q = WC C call L a108_1 F S (thenK (fun F S => WC C call L c108_2 F S Q) Q) := id rfl
def a108 : AC := (.reg [⟨(some 1), none, .box (.t 0)⟩,
 ⟨(some 2), none, .mv (.c (.int .i64 0))⟩,
 ⟨(some 3), none, .mv (.c (.int .i64 0))⟩])
def c108 : AC := .seq a108 c108_1
theorem e108 : WC C call L c108 F S Q = WC C call L a108 F S (thenK (fun F S => WC C call L c108_1 F S Q) Q) := id rfl
theorem fn108 : (ctxE Try.prog kpN env).fn 108 = some ⟨123, [.tmp 2, .tmp 3], c108, .plain⟩ := by kernel_rfl
def a109_2 : AC := (.reg [⟨(some 9), none, .mv (.t 4)⟩,
 ⟨(some 10), none, .bin .neq (.t 9) (.c (.int .i64 0))⟩])
def c109_2 : AC := .seq a109_2 (.cond (.t 10) (.seq (.reg [⟨(some 11), none, .mv (.t 4)⟩,
 ⟨(some 2), none, .mv (.c (.int .i64 0))⟩,
 ⟨(some 3), none, .mv (.t 11)⟩]) .ret) .skip)
theorem e109_2 : WC C call L c109_2 F S Q = WC C call L a109_2 F S (thenK (fun F S => WC C call L (.cond (.t 10) (.seq (.reg [⟨(some 11), none, .mv (.t 4)⟩,
 ⟨(some 2), none, .mv (.c (.int .i64 0))⟩,
 ⟨(some 3), none, .mv (.t 11)⟩]) .ret) .skip) F S Q) Q) := id rfl
def a109_4 : AC := (.reg [⟨(some 17), none, .mv (.t 5)⟩,
 ⟨(some 18), none, .bin .geq (.t 17) (.c (.int .i64 0))⟩])
def c109_4 : AC := .seq a109_4 (.cond (.t 18) (.seq (.reg [⟨(some 19), none, .mv (.t 5)⟩,
 ⟨(some 2), none, .mv (.t 19)⟩,
 ⟨(some 3), none, .mv (.c (.int .i64 32))⟩]) .ret) .skip)
theorem e109_4 : WC C call L c109_4 F S Q = WC C call L a109_4 F S (thenK (fun F S => WC C call L (.cond (.t 18) (.seq (.reg [⟨(some 19), none, .mv (.t 5)⟩,
 ⟨(some 2), none, .mv (.t 19)⟩,
 ⟨(some 3), none, .mv (.c (.int .i64 32))⟩]) .ret) .skip) F S Q) Q) := id rfl
def a109_6 : AC := (.reg [⟨(some 25), none, .mv (.t 6)⟩,
 ⟨(some 26), none, .bin .geq (.t 25) (.c (.int .i64 0))⟩])
def c109_6 : AC := .seq a109_6 (.cond (.t 26) (.seq (.reg [⟨(some 27), none, .mv (.t 6)⟩,
 ⟨(some 2), none, .mv (.t 27)⟩,
 ⟨(some 3), none, .mv (.c (.int .i64 33))⟩]) .ret) .skip)
theorem e109_6 : WC C call L c109_6 F S Q = WC C call L a109_6 F S (thenK (fun F S => WC C call L (.cond (.t 26) (.seq (.reg [⟨(some 27), none, .mv (.t 6)⟩,
 ⟨(some 2), none, .mv (.t 27)⟩,
 ⟨(some 3), none, .mv (.c (.int .i64 33))⟩]) .ret) .skip) F S Q) Q) := id rfl
def a109_5 : AC := (.seq (.reg [⟨(some 20), none, .fad 5 (.t 1)⟩,
 ⟨(some 21), none, .ld1 (.t 20)⟩,
 ⟨(some 22), none, .fad 2 (.t 1)⟩,
 ⟨(some 23), none, .ld1 (.t 22)⟩,
 ⟨(some 24), none, .call 151 [(.t 21), (.t 23)]⟩,
 ⟨(some 6), none, .mv (.t 24)⟩]) c109_6)
def c109_5 : AC := .seq a109_5 (.seq (.reg [⟨(some 2), none, .mv (.c (.int .i64 0))⟩,
 ⟨(some 3), none, .mv (.c (.int .i64 0))⟩]) .ret)
theorem e109_5 : WC C call L c109_5 F S Q = WC C call L a109_5 F S (thenK (fun F S => WC C call L (.seq (.reg [⟨(some 2), none, .mv (.c (.int .i64 0))⟩,
 ⟨(some 3), none, .mv (.c (.int .i64 0))⟩]) .ret) F S Q) Q) := id rfl
def a109_3 : AC := (.seq (.reg [⟨(some 12), none, .fad 4 (.t 1)⟩,
 ⟨(some 13), none, .ld1 (.t 12)⟩,
 ⟨(some 14), none, .fad 3 (.t 1)⟩,
 ⟨(some 15), none, .ld1 (.t 14)⟩,
 ⟨(some 16), none, .call 151 [(.t 13), (.t 15)]⟩,
 ⟨(some 5), none, .mv (.t 16)⟩]) c109_4)
def c109_3 : AC := .seq a109_3 c109_5
theorem e109_3 : WC C call L c109_3 F S Q = WC C call L a109_3 F S (thenK (fun F S => WC C call L c109_5 F S Q) Q) := id rfl
def a109_1 : AC := (.seq (.reg [⟨(some 7), none, .ldn 6 (.t 1)⟩,
 ⟨(some 8), none, .call 150 [(.t 7)]⟩,
 ⟨(some 4), none, .mv (.t 8)⟩]) c109_2)
def c109_1 : AC := .seq a109_1 c109_3
theorem e109_1 : WC C call L c109_1 F S Q = WC C call L a109_1 F S (thenK (fun F S => WC C call L c109_3 F S Q) Q) := id rfl
def a109 : AC := (.reg [⟨(some 1), none, .box (.t 0)⟩,
 ⟨(some 2), none, .mv (.c (.int .i64 0))⟩,
 ⟨(some 3), none, .mv (.c (.int .i64 0))⟩])
def c109 : AC := .seq a109 c109_1
theorem e109 : WC C call L c109 F S Q = WC C call L a109 F S (thenK (fun F S => WC C call L c109_1 F S Q) Q) := id rfl
theorem fn109 : (ctxE Try.prog kpN env).fn 109 = some ⟨28, [.tmp 2, .tmp 3], c109, .plain⟩ := by kernel_rfl
def a110_1 : AC := (.reg [⟨(some 10), none, .ldn 6 (.t 2)⟩,
 ⟨(some 11), none, .mv (.t 1)⟩,
 ⟨(some 12), none, .call 152 [(.t 10), (.c (.int .i64 0)), (.t 11)]⟩,
 ⟨(some 9), none, .mv (.t 12)⟩,
 ⟨(some 13), none, .xt 0 (.t 9)⟩,
 ⟨(some 14), none, .xt 1 (.t 9)⟩,
 ⟨(some 15), none, .xt 2 (.t 9)⟩,
 ⟨(some 6), none, .mv (.t 13)⟩,
 ⟨(some 7), none, .mv (.t 14)⟩,
 ⟨(some 8), none, .mv (.t 15)⟩])
def c110_1 : AC := .seq a110_1 (.seq (.reg [⟨(some 16), none, .mv (.t 6)⟩,
 ⟨(some 17), none, .mv (.t 8)⟩,
 ⟨(some 4), none, .mv (.t 16)⟩,
 ⟨(some 5), none, .mv (.t 17)⟩]) .ret)
theorem e110_1 : WC C call L c110_1 F S Q = WC C call L a110_1 F S (thenK (fun F S => WC C call L (.seq (.reg [⟨(some 16), none, .mv (.t 6)⟩,
 ⟨(some 17), none, .mv (.t 8)⟩,
 ⟨(some 4), none, .mv (.t 16)⟩,
 ⟨(some 5), none, .mv (.t 17)⟩]) .ret) F S Q) Q) := id rfl
def a110 : AC := (.reg [⟨(some 2), none, .box (.t 0)⟩,
 ⟨(some 4), none, .mv (.c (.int .i64 0))⟩,
 ⟨(some 5), none, .mv (.c (.int .i64 0))⟩])
def c110 : AC := .seq a110 c110_1
theorem e110 : WC C call L c110 F S Q = WC C call L a110 F S (thenK (fun F S => WC C call L c110_1 F S Q) Q) := id rfl
theorem fn110 : (ctxE Try.prog kpN env).fn 110 = some ⟨18, [.tmp 4, .tmp 5], c110, .plain⟩ := by kernel_rfl
def a113 : AC := (.reg [⟨(some 2), none, .mv (.c .nils)⟩])
def c113 : AC := .seq a113 (.seq (.reg [⟨(some 3), none, .mv (.t 0)⟩,
 ⟨(some 4), none, .call 156 [(.t 3)]⟩,
 ⟨(some 2), none, .mv (.t 4)⟩]) .ret)
theorem e113 : WC C call L c113 F S Q = WC C call L a113 F S (thenK (fun F S => WC C call L (.seq (.reg [⟨(some 3), none, .mv (.t 0)⟩,
 ⟨(some 4), none, .call 156 [(.t 3)]⟩,
 ⟨(some 2), none, .mv (.t 4)⟩]) .ret) F S Q) Q) := id rfl
theorem fn113 : (ctxE Try.prog kpN env).fn 113 = some ⟨5, [.tmp 2], c113, .plain⟩ := by kernel_rfl
def a114_3 : AC := (.cond (.t 12) (.seq (.reg [⟨(some 13), none, .fad 1 (.t 1)⟩,
 ⟨(some 14), none, .ld1 (.t 13)⟩,
 ⟨(some 15), none, .bin .add (.t 14) (.c (.int .i64 1))⟩,
 ⟨(some 2), none, .mv (.t 15)⟩,
 ⟨(some 3), none, .mv (.c (.bool true))⟩]) .ret) .skip)
def c114_3 : AC := a114_3
theorem e114_3 : WC C call L c114_3 F S Q = WC C call L a114_3 F S Q := id rfl
def a114_7 : AC := (.cond (.t 31) (.seq (.reg [⟨(some 32), none, .fad 1 (.t 1)⟩,
 ⟨(some 33), none, .ld1 (.t 32)⟩,
 ⟨(some 34), none, .bin .add (.t 33) (.c (.int .i64 1))⟩,
 ⟨(some 2), none, .mv (.t 34)⟩,
 ⟨(some 3), none, .mv (.c (.bool true))⟩]) .ret) .skip)
def c114_7 : AC := a114_7
theorem e114_7 : WC C call L c114_7 F S Q = WC C call L a114_7 F S Q := id rfl
def a114_8 : AC := (.reg [⟨(some 35), none, .fad 2 (.t 1)⟩,
 ⟨(some 36), none, .ld1 (.t 35)⟩,
 ⟨(some 37), none, .fad 3 (.t 1)⟩,
 ⟨(some 38), none, .ld1 (.t 37)⟩,
 ⟨(some 39), none, .bin .sub (.t 36) (.t 38)⟩,
 ⟨(some 2), none, .mv (.t 39)⟩,
 ⟨(some 3), none, .mv (.c (.bool true))⟩])
def c114_8 : AC := .seq a114_8 .ret
theorem e114_8 : WC C call L c114_8 F S Q = WC C call L a114_8 F S (thenK (fun F S => WC C call L .ret F S Q) Q) := id rfl
def a114_6 : AC := (.seq (.reg [⟨(some 24), none, .fad 2 (.t 1)⟩,
 ⟨(some 25), none, .ld1 (.t 24)⟩,
 ⟨(some 26), none, .fad 1 (.t 1)⟩,
 ⟨(some 27), none, .ld1 (.t 26)⟩,
 ⟨(some 28), none, .bin .sub (.t 25) (.t 27)⟩,
 ⟨(some 29), none, .fad 3 (.t 1)⟩,
 ⟨(some 30), none, .ld1 (.t 29)⟩,
 ⟨(some 31), none, .bin .leq (.t 28) (.t 30)⟩]) c114_7)
def c114_6 : AC := .seq a114_6 c114_8
theorem e114_6 : WC C call L c114_6 F S Q = WC C call L a114_6 F S (thenK (fun F S => WC C call L c114_8 F S Q) Q) := id rfl
def a114_5 : AC := (.cond (.t 23) c114_6 .skip)
def c114_5 : AC := a114_5
theorem e114_5 : WC C call L c114_5 F S Q = WC C call L a114_5 F S Q := id rfl
def a114_9 : AC := (.reg [⟨(some 40), none, .fad 1 (.t 1)⟩,
 ⟨(some 41), none, .ld1 (.t 40)⟩,
 ⟨(some 42), none, .fad 2 (.t 1)⟩,
 ⟨(some 43), none, .ld1 (.t 42)⟩,
 ⟨(some 44), none, .bin .add (.t 41) (.t 43)⟩,
 ⟨(some 45), none, .bin .quo (.t 44) (.c (.int .i64 2))⟩,
 ⟨(some 2), none, .mv (.t 45)⟩,
 ⟨(some 3), none, .mv (.c (.bool true))⟩])
def c114_9 : AC := .seq a114_9 .ret
theorem e114_9 : WC C call L c114_9 F S Q = WC C call L a114_9 F S (thenK (fun F S => WC C call L .ret F S Q) Q) := id rfl
def a114_4 : AC := (.seq (.reg [⟨(some 16), none, .fad 0 (.t 1)⟩,
 ⟨(some 17), none, .ld1 (.t 16)⟩,
 ⟨(some 18), none, .bin .eql (.t 17) (.c (.int .i64 3))⟩,
 ⟨(some 19), none, .mv (.t 18)⟩,
 ⟨(some 20), (some (19, true)), .fad 4 (.t 1)⟩,
 ⟨(some 21), (some (19, true)), .ld1 (.t 20)⟩,
 ⟨(some 22), (some (19, true)), .un .not (.t 21)⟩,
 ⟨(some 23), none, .pick (.t 19) (.t 22) (.c (.bool false))⟩]) c114_5)
def c114_4 : AC := .seq a114_4 c114_9
theorem e114_4 : WC C call L c114_4 F S Q = WC C call L a114_4 F S (thenK (fun F S => WC C call L c114_9 F S Q) Q) := id rfl
def a114_2 : AC := (.seq (.reg [⟨(some 10), none, .fad 0 (.t 1)⟩,
 ⟨(some 11), none, .ld1 (.t 10)⟩,
 ⟨(some 12), none, .bin .eql (.t 11) (.c (.int .i64 1))⟩]) c114_3)
def c114_2 : AC := .seq a114_2 c114_4
theorem e114_2 : WC C call L c114_2 F S Q = WC C call L a114_2 F S (thenK (fun F S => WC C call L c114_4 F S Q) Q) := id rfl
def a114_1 : AC := (.seq (.reg [⟨(some 4), none, .fad 2 (.t 1)⟩,
 ⟨(some 5), none, .ld1 (.t 4)⟩,
 ⟨(some 6), none, .fad 1 (.t 1)⟩,
 ⟨(some 7), none, .ld1 (.t 6)⟩,
 ⟨(some 8), none, .bin .add (.t 7) (.c (.int .i64 1))⟩,
 ⟨(some 9), none, .bin .eql (.t 5) (.t 8)⟩]) (.cond (.t 9) (.seq (.reg [⟨(some 2), none, .mv (.c (.int .i64 0))⟩,
 ⟨(some 3), none, .mv (.c (.bool false))⟩]) .ret) .skip))
def c114_1 : AC := .seq a114_1 c114_2
theorem e114_1 : WC C call L c114_1 F S Q = WC C call L a114_1 F S (thenK (fun F S => WC C call L c114_2 F S Q) Q) := id rfl
def a114 : AC := (.reg [⟨(some 1), none, .box (.t 0)⟩,
 ⟨(some 2), none, .mv (.c (.int .i64 0))⟩,
 ⟨(some 3), none, .mv (.c (.bool false))⟩])
def c114 : AC := .seq a114 c114_1
theorem e114 : WC C call L c114 F S Q = WC C call L a114 F S (thenK (fun F S => WC C call L c114_1 F S Q) Q) := id rfl
theorem fn114 : (ctxE Try.prog kpN env).fn 114 = some ⟨46, [.tmp 2, .tmp 3], c114, .plain⟩ := by kernel_rfl
def a120_3 : AC := (.cond (.t 19) (.seq (.reg [⟨(some 20), none, .mv (.t 10)⟩,
 ⟨(some 6), none, .mv (.c (.int .i64 0))⟩,
 ⟨(some 7), none, .mv (.c .nils)⟩,
 ⟨(some 8), none, .mv (.t 20)⟩]) .ret) .skip)
def c120_3 : AC := a120_3
theorem e120_3 : WC C call L c120_3 F S Q = WC C call L a120_3 F S Q := id rfl
def a120_7 : AC := (.cond (.t 37) (.seq (.reg [⟨(some 38), none, .mv (.t 10)⟩,
 ⟨(some 6), none, .mv (.c (.int .i64 0))⟩,
 ⟨(some 7), none, .mv (.c .nils)⟩,
 ⟨(some 8), none, .mv (.t 38)⟩]) .ret) .skip)
def c120_7 : AC := a120_7
theorem e120_7 : WC C call L c120_7 F S Q = WC C call L a120_7 F S Q := id rfl
def a120_9 : AC := (.reg [⟨(some 46), none, .mv (.t 11)⟩,
 ⟨(some 47), none, .mv (.t 12)⟩,
 ⟨(some 6), none, .mv (.t 46)⟩,
 ⟨(some 7), none, .mv (.t 47)⟩,
 ⟨(some 8), none, .mv (.c (.int .i64 0))⟩])
def c120_9 : AC := .seq a120_9 .ret
theorem e120_9 : WC C call L c120_9 F S Q = WC C call L a120_9 F S (thenK (fun F S => WC C call L .ret F S Q) Q) := id rfl
def a120_8 : AC := (.reg [⟨(some 40), none, .ldn 6 (.t 3)⟩,
 ⟨(some 41), none, .mv (.t 1)⟩,
 ⟨(some 42), none, .mv (.t 2)⟩,
 ⟨(some 43), none, .call 41 [(.t 40), (.t 41), (.t 42)]⟩,
 ⟨(some 39), none, .mv (.t 43)⟩,
 ⟨(some 44), none, .xt 0 (.t 39)⟩,
 ⟨(some 45), none, .xt 1 (.t 39)⟩,
 ⟨(some 11), none, .mv (.t 44)⟩,
 ⟨(some 12), none, .mv (.t 45)⟩])
def c120_8 : AC := .seq a120_8 c120_9
theorem e120_8 : WC C call L c120_8 F S Q = WC C call L a120_8 F S (thenK (fun F S => WC C call L c120_9 F S Q) Q) := id rfl
def a120_6 : AC := (.seq (.reg [⟨(some 36), none, .mv (.t 10)⟩,
 ⟨(some 37), none, .bin .neq (.t 36) (.c (.int .i64 0))⟩]) c120_7)
def c120_6 : AC := .seq a120_6 c120_8
theorem e120_6 : WC C call L c120_6 F S Q = WC C call L a120_6 F S (thenK (fun F S => WC C call L c120_8 F S Q) Q) := id rfl
def a120_5 : AC := (.reg [⟨(some 30), none, .mv (.t 2)⟩,
 ⟨(some 31), none, .fad 1 (.t 3)⟩,
 ⟨(some 32), none, .ld1 (.t 31)⟩,
 ⟨(some 33), none, .call 61 [(.t 30), (.t 32)]⟩,
 ⟨(some 29), none, .mv (.t 33)⟩,
 ⟨(some 34), none, .xt 0 (.t 29)⟩,
 ⟨(some 35), none, .xt 1 (.t 29)⟩,
 ⟨(some 10), none, .mv (.t 35)⟩])
def c120_5 : AC := .seq a120_5 c120_6
theorem e120_5 : WC C call L c120_5 F S Q = WC C call L a120_5 F S (thenK (fun F S => WC C call L c120_6 F S Q) Q) := id rfl
def a120_4 : AC := (.seq (.reg [⟨(some 21), none, .mv (.t 1)⟩,
 ⟨(some 22), none, .bin .lss (.t 21) (.c (.int .i64 0))⟩,
 ⟨(some 23), none, .mv (.t 22)⟩,
 ⟨(some 24), (some (23, false)), .mv (.t 1)⟩,
 ⟨(some 25), (some (23, false)), .fad 3 (.t 3)⟩,
 ⟨(some 26), (some (23, false)), .ld1 (.t 25)⟩,
 ⟨(some 27), (some (23, false)), .bin .geq (.t 24) (.t 26)⟩,
 ⟨(some 28), none, .pick (.t 23) (.c (.bool true)) (.t 27)⟩]) (.cond (.t 28) (.seq (.reg [⟨(some 6), none, .mv (.c (.int .i64 0))⟩,
 ⟨(some 7), none, .mv (.c .nils)⟩,
 ⟨(some 8), none, .mv (.c (.int .i64 32))⟩]) .ret) .skip))
def c120_4 : AC := .seq a120_4 c120_5
theorem e120_4 : WC C call L c120_4 F S Q = WC C call L a120_4 F S (thenK (fun F S => WC C call L c120_5 F S Q) Q) := id rfl
def a120_2 : AC := (.seq (.reg [⟨(some 18), none, .mv (.t 10)⟩,
 ⟨(some 19), none, .bin .neq (.t 18) (.c (.int .i64 0))⟩]) c120_3)
def c120_2 : AC := .seq a120_2 c120_4
theorem e120_2 : WC C call L c120_2 F S Q = WC C call L a120_2 F S (thenK (fun F S => WC C call L c120_4 F S Q) Q) := id rfl
def a120_1 : AC := (.reg [⟨(some 14), none, .ldn 6 (.t 3)⟩,
 ⟨(some 15), none, .call 108 [(.t 14)]⟩,
 ⟨(some 13), none, .mv (.t 15)⟩,
 ⟨(some 16), none, .xt 0 (.t 13)⟩,
 ⟨(some 17), none, .xt 1 (.t 13)⟩,
 ⟨(some 9), none, .mv (.t 16)⟩,
 ⟨(some 10), none, .mv (.t 17)⟩])
def c120_1 : AC := .seq a120_1 c120_2
theorem e120_1 : WC C call L c120_1 F S Q = WC C call L a120_1 F S (thenK (fun F S => WC C call L c120_2 F S Q) Q) := id rfl
def a120 : AC := (.reg [⟨(some 3), none, .box (.t 0)⟩,
 ⟨(some 6), none, .mv (.c (.int .i64 0))⟩,
 ⟨(some 7), none, .mv (.c .nils)⟩,
 ⟨(some 8), none, .mv (.c (.int .i64 0))⟩])
def c120 : AC := .seq a120 c120_1
theorem e120 : WC C call L c120 F S Q = WC C call L a120 F S (thenK (fun F S => WC C call L c120_1 F S Q) Q) := id rfl
theorem fn120 : (ctxE Try.prog kpN env).fn 120 = some ⟨48, [.tmp 6, .tmp 7, .tmp 8], c120, .plain⟩ := by kernel_rfl
def a121_5 : AC := (.seq (.reg [⟨(some 30), none, .fad 1 (.t 3)⟩,
 ⟨(some 31), none, .ld1 (.t 30)⟩,
 ⟨(some 32), none, .len 0 (.t 31)⟩,
 ⟨(some 33), none, .bin .eql (.t 32) (.c (.int .i64 0))⟩,
 ⟨(some 34), none, .mv (.t 33)⟩,
 ⟨(some 35), (some (34, true)), .fad 0 (.t 3)⟩,
 ⟨(some 36), (some (34, true)), .ld1 (.t 35)⟩,
 ⟨(some 37), (some (34, true)), .bin .eql (.t 36) (.c (.int .i64 2))⟩,
 ⟨(some 38), (some (34, true)), .mv (.t 37)⟩,
 ⟨(some 39), (some (38, true)), .fad 2 (.t 3)⟩,
 ⟨(some 40), (some (38, true)), .ld1 (.t 39)⟩,
 ⟨(some 41), (some (38, true)), .len 0 (.t 40)⟩,
 ⟨(some 42), (some (38, true)), .bin .eql (.t 41) (.c (.int .i64 0))⟩,
 ⟨(some 43), (some (34, true)), .pick (.t 38) (.t 42) (.c (.bool false))⟩,
 ⟨(some 44), (some (34, true)), .mv (.t 43)⟩,
 ⟨(some 45), (some (44, false)), .fad 0 (.t 3)⟩,
 ⟨(some 46), (some (44, false)), .ld1 (.t 45)⟩,
 ⟨(some 47), (some (44, false)), .bin .eql (.t 46) (.c (.int .i64 3))⟩,
 ⟨(some 48), (some (44, false)), .mv (.t 47)⟩,
 ⟨(some 49), (some (48, true)), .mv (.t 6)⟩,
 ⟨(some 50), (some (48, true)), .bin .eql (.t 49) (.c (.int .i64 0))⟩,
 ⟨(some 51), (some (44, false)), .pick (.t 48) (.t 50) (.c (.bool false))⟩,
 ⟨(some 52), (some (34, true)), .pick (.t 44) (.c (.bool true)) (.t 51)⟩,
 ⟨(some 53), none, .pick (.t 34) (.t 52) (.c (.bool false))⟩]) (.cond (.t 53) (.seq (.reg [⟨(some 4), none, .mv (.c (.int .i64 0))⟩]) .ret) .skip))
def c121_5 : AC := .seq a121_5 (.seq (.reg [⟨(some 4), none, .mv (.c (.int .i64 100))⟩]) .ret)
def a121_4 : AC := (.reg [⟨(some 22), none, .fad 2 (.t 3)⟩,
 ⟨(some 23), none, .ld1 (.t 22)⟩,
 ⟨(some 24), none, .fad 2 (.t 2)⟩,
 ⟨(some 25), none, .fad 1 (.t 24)⟩,
 ⟨(some 26), none, .ld1 (.t 25)⟩,
 ⟨(some 27), none, .call 61 [(.t 23), (.t 26)]⟩,
 ⟨(some 21), none, .mv (.t 27)⟩,
 ⟨(some 28), none, .xt 0 (.t 21)⟩,
 ⟨(some 29), none, .xt 1 (.t 21)⟩,
 ⟨(some 5), none, .mv (.t 28)⟩,
 ⟨(some 6), none, .mv (.t 29)⟩])
def c121_4 : AC := .seq a121_4 c121_5
def a121_3 : AC := (.cond (.t 20) c121_4 .skip)
def c121_3 : AC := a121_3
theorem e121_3 : WC C call L c121_3 F S Q = WC C call L a121_3 F S Q := id rfl
def a121_12 : AC := (.block 1 (.seq (.reg [⟨(some 99), none, .fad 1 (.t 3)⟩,
 ⟨(some 100), none, .ld1 (.t 99)⟩,
 ⟨(some 101), none, .mv (.t 9)⟩,
 ⟨(some 102), none, .ixs 1 (.t 100) (.t 101)⟩,
 ⟨(some 103), none, .ld1 (.t 102)⟩,
 ⟨(some 104), none, .bin .lss (.t 103) (.c (.int .i64 0))⟩,
 ⟨(some 105), none, .mv (.t 104)⟩,
 ⟨(some 106), (some (105, false)), .fad 1 (.t 3)⟩,
 ⟨(some 107), (some (105, false)), .ld1 (.t 106)⟩,
 ⟨(some 108), (some (105, false)), .mv (.t 9)⟩,
 ⟨(some 109), (some (105, false)), .ixs 1 (.t 107) (.t 108)⟩,
 ⟨(some 110), (some (105, false)), .ld1 (.t 109)⟩,
 ⟨(some 111), (some (105, false)), .mv (.t 8)⟩,
 ⟨(some 112), (some (105, false)), .bin .geq (.t 110) (.t 111)⟩,
 ⟨(some 113), none, .pick (.t 105) (.c (.bool true)) (.t 112)⟩]) (.cond (.t 113) (.seq (.reg [⟨(some 4), none, .mv (.c (.int .i64 100))⟩]) .ret) .skip)))
def c121_12 : AC := .seq a121_12 (.reg [⟨(some 97), none, .mv (.t 9)⟩,
 ⟨(some 98), none, .bin .add (.t 97) (.c (.int .i64 1))⟩,
 ⟨(some 9), none, .mv (.t 98)⟩])
theorem e121_12 : WC C call L c121_12 F S Q = WC C call L a121_12 F S (thenK (fun F S => WC C call L (.reg [⟨(some 97), none, .mv (.t 9)⟩,
 ⟨(some 98), none, .bin .add (.t 97) (.c (.int .i64 1))⟩,
 ⟨(some 9), none, .mv (.t 98)⟩]) F S Q) Q) := id rfl
def a121_11 : AC := (.seq (.reg [⟨(some 92), none, .mv (.t 9)⟩,
 ⟨(some 93), none, .fad 1 (.t 3)⟩,
 ⟨(some 94), none, .ld1 (.t 93)⟩,
 ⟨(some 95), none, .len 0 (.t 94)⟩,
 ⟨(some 96), none, .bin .lss (.t 92) (.t 95)⟩]) (.cond (.t 96) .skip (.exit 0)))
def c121_11 : AC := .seq a121_11 c121_12
theorem e121_11 : WC C call L c121_11 F S Q = WC C call L a121_11 F S (thenK (fun F S => WC C call L c121_12 F S Q) Q) := id rfl
def a121_10 : AC := (.block 0 (.loop [0, 1, 2, 3, 4, 6, 7, 8, 9, 17, 20, 53, 63, 91, 96, 113] c121_11))
def c121_10 : AC := a121_10
theorem e121_10 : WC C call L c121_10 F S Q = WC C call L a121_10 F S Q := id rfl
def a121_9 : AC := (.seq (.reg [⟨(some 9), none, .mv (.c (.int .i64 0))⟩]) c121_10)
def c121_9 : AC := .seq a121_9 (.seq (.reg [⟨(some 4), none, .mv (.c (.int .i64 0))⟩]) .ret)
theorem e121_9 : WC C call L c121_9 F S Q = WC C call L a121_9 F S (thenK (fun F S => WC C call L (.seq (.reg [⟨(some 4), none, .mv (.c (.int .i64 0))⟩]) .ret) F S Q) Q) := id rfl
def a121_8 : AC := (.seq (.reg [⟨(some 64), none, .fad 0 (.t 3)⟩,
 ⟨(some 65), none, .ld1 (.t 64)⟩,
 ⟨(some 66), none, .bin .neq (.t 65) (.c (.int .i64 1))⟩,
 ⟨(some 67), none, .mv (.t 66)⟩,
 ⟨(some 68), (some (67, false)), .fad 2 (.t 3)⟩,
 ⟨(some 69), (some (67, false)), .ld1 (.t 68)⟩,
 ⟨(some 70), (some (67, false)), .len 0 (.t 69)⟩,
 ⟨(some 71), (some (67, false)), .bin .gtr (.t 70) (.c (.int .i64 0))⟩,
 ⟨(some 72), none, .pick (.t 67) (.c (.bool true)) (.t 71)⟩,
 ⟨(some 73), none, .mv (.t 72)⟩,
 ⟨(some 74), (some (73, false)), .fad 2 (.t 2)⟩,
 ⟨(some 75), (some (73, false)), .fad 0 (.t 74)⟩,
 ⟨(some 76), (some (73, false)), .ld1 (.t 75)⟩,
 ⟨(some 77), (some (73, false)), .bin .neq (.t 76) (.c (.int .i64 1))⟩,
 ⟨(some 78), (some (73, false)), .mv (.t 77)⟩,
 ⟨(some 79), (some (78, true)), .fad 2 (.t 2)⟩,
 ⟨(some 80), (some (78, true)), .fad 0 (.t 79)⟩,
 ⟨(some 81), (some (78, true)), .ld1 (.t 80)⟩,
 ⟨(some 82), (some (78, true)), .bin .neq (.t 81) (.c (.int .i64 2))⟩,
 ⟨(some 83), (some (73, false)), .pick (.t 78) (.t 82) (.c (.bool false))⟩,
 ⟨(some 84), none, .pick (.t 73) (.c (.bool true)) (.t 83)⟩,
 ⟨(some 85), none, .mv (.t 84)⟩,
 ⟨(some 86), (some (85, false)), .fad 1 (.t 3)⟩,
 ⟨(some 87), (some (85, false)), .ld1 (.t 86)⟩,
 ⟨(some 88), (some (85, false)), .len 0 (.t 87)⟩,
 ⟨(some 89), (some (85, false)), .mv (.t 7)⟩,
 ⟨(some 90), (some (85, false)), .bin .neq (.t 88) (.t 89)⟩,
 ⟨(some 91), none, .pick (.t 85) (.c (.bool true)) (.t 90)⟩]) (.cond (.t 91) (.seq (.reg [⟨(some 4), none, .mv (.c (.int .i64 100))⟩]) .ret) .skip))
def c121_8 : AC := .seq a121_8 c121_9
theorem e121_8 : WC C call L c121_8 F S Q = WC C call L a121_8 F S (thenK (fun F S => WC C call L c121_9 F S Q) Q) := id rfl
def a121_7 : AC := (.seq (.reg [⟨(some 60), none, .fad 2 (.t 2)⟩,
 ⟨(some 61), none, .fad 0 (.t 60)⟩,
 ⟨(some 62), none, .ld1 (.t 61)⟩,
 ⟨(some 63), none, .bin .eql (.t 62) (.c (.int .i64 1))⟩]) (.cond (.t 63) (.reg [⟨(some 7), none, .mv (.c (.int .i64 1))⟩,
 ⟨(some 8), none, .mv (.c (.int .i64 2))⟩]) .skip))
def c121_7 : AC := .seq a121_7 c121_8
theorem e121_7 : WC C call L c121_7 F S Q = WC C call L a121_7 F S (thenK (fun F S => WC C call L c121_8 F S Q) Q) := id rfl
def a121_6 : AC := (.draw [(⟨(some 54), none, .fad 1 (.t 2)⟩, [], [2]),
 (⟨(some 55), none, .ld1 (.t 54)⟩, [0], [54]),
 (⟨(some 56), none, .len 0 (.t 55)⟩, [1, 0], [55]),
 (⟨(some 57), none, .fad 2 (.t 2)⟩, [], [2]),
 (⟨(some 58), none, .fad 2 (.t 57)⟩, [3], [57]),
 (⟨(some 59), none, .ld1 (.t 58)⟩, [4, 3], [58]),
 (⟨(some 7), none, .mv (.t 56)⟩, [2, 1, 0], [56]),
 (⟨(some 8), none, .mv (.t 59)⟩, [5, 4, 3, 6, 2, 1, 0], [59])])
def c121_6 : AC := .seq a121_6 c121_7
theorem e121_6 : WC C call L c121_6 F S Q = WC C call L a121_6 F S (thenK (fun F S => WC C call L c121_7 F S Q) Q) := id rfl
def a121_2 : AC := (.seq (.reg [⟨(some 18), none, .fad 0 (.t 2)⟩,
 ⟨(some 19), none, .ld1 (.t 18)⟩,
 ⟨(some 20), none, .bin .eql (.t 19) (.c (.int .i64 2))⟩]) c121_3)
def c121_2 : AC := .seq a121_2 c121_6
theorem e121_2 : WC C call L c121_2 F S Q = WC C call L a121_2 F S (thenK (fun F S => WC C call L c121_6 F S Q) Q) := id rfl
def a121_1 : AC := (.seq (.reg [⟨(some 10), none, .fad 0 (.t 2)⟩,
 ⟨(some 11), none, .ld1 (.t 10)⟩,
 ⟨(some 12), none, .bin .neq (.t 11) (.c (.int .i64 1))⟩,
 ⟨(some 13), none, .mv (.t 12)⟩,
 ⟨(some 14), (some (13, true)), .fad 0 (.t 2)⟩,
 ⟨(some 15), (some (13, true)), .ld1 (.t 14)⟩,
 ⟨(some 16), (some (13, true)), .bin .neq (.t 15) (.c (.int .i64 2))⟩,
 ⟨(some 17), none, .pick (.t 13) (.t 16) (.c (.bool false))⟩]) (.cond (.t 17) (.seq (.reg [⟨(some 4), none, .mv (.c (.int .i64 30))⟩]) .ret) .skip))
def c121_1 : AC := .seq a121_1 c121_2
theorem e121_1 : WC C call L c121_1 F S Q = WC C call L a121_1 F S (thenK (fun F S => WC C call L c121_2 F S Q) Q) := id rfl
def a121 : AC := (.reg [⟨(some 2), none, .box (.t 0)⟩,
 ⟨(some 3), none, .box (.t 1)⟩,
 ⟨(some 4), none, .mv (.c (.int .i64 0))⟩])
def c121 : AC := .seq a121 c121_1
theorem e121 : WC C call L c121 F S Q = WC C call L a121 F S (thenK (fun F S => WC C call L c121_1 F S Q) Q) := id rfl
theorem fn121 : (ctxE Try.prog kpN env).fn 121 = some ⟨114, [.tmp 4], c121, .plain⟩ := by kernel_rfl
def a122_4 : AC := (.cond (.t 16) (.reg [⟨(some 17), none, .mv (.t 6)⟩,
 ⟨(some 18), none, .fad 2 (.t 2)⟩,
 ⟨none, none, .st 1 (.t 18) (.t 17)⟩]) (.seq (.reg [⟨(some 19), none, .mv (.t 6)⟩,
 ⟨(some 20), none, .fad 1 (.t 2)⟩,
 ⟨none, none, .st 1 (.t 20) (.t 19)⟩]) (.reg [⟨(some 21), none, .fad 4 (.t 2)⟩,
 ⟨none, none, .st 1 (.t 21) (.c (.bool true))⟩])))
def c122_4 : AC := a122_4
theorem e122_4 : WC C call L c122_4 F S Q = WC C call L a122_4 F S Q := id rfl
def a122_6 : AC := (.reg [⟨(some 26), none, .fad 5 (.t 2)⟩,
 ⟨(some 27), none, .ld1 (.t 26)⟩,
 ⟨(some 28), none, .bin .add (.t 27) (.c (.int .i64 1))⟩,
 ⟨(some 29), none, .fad 5 (.t 2)⟩,
 ⟨none, none, .st 1 (.t 29) (.t 28)⟩])
def c122_6 : AC := .seq a122_6 (.seq (.reg [⟨(some 30), none, .ldn 6 (.t 2)⟩,
 ⟨none, none, .st 6 (.t 4) (.t 30)⟩,
 ⟨(some 5), none, .mv (.c (.int .i64 0))⟩]) .ret)
theorem e122_6 : WC C call L c122_6 F S Q = WC C call L a122_6 F S (thenK (fun F S => WC C call L (.seq (.reg [⟨(some 30), none, .ldn 6 (.t 2)⟩,
 ⟨none, none, .st 6 (.t 4) (.t 30)⟩,
 ⟨(some 5), none, .mv (.c (.int .i64 0))⟩]) .ret) F S Q) Q) := id rfl
def a122_5 : AC := (.reg [⟨(some 22), none, .fad 3 (.t 2)⟩,
 ⟨(some 23), none, .ld1 (.t 22)⟩,
 ⟨(some 24), none, .bin .mul (.c (.int .i64 2)) (.t 23)⟩,
 ⟨(some 25), none, .fad 3 (.t 2)⟩,
 ⟨none, none, .st 1 (.t 25) (.t 24)⟩])
def c122_5 : AC := .seq a122_5 c122_6
theorem e122_5 : WC C call L c122_5 F S Q = WC C call L a122_5 F S (thenK (fun F S => WC C call L c122_6 F S Q) Q) := id rfl
def a122_3 : AC := (.seq (.reg [⟨(some 16), none, .mv (.t 1)⟩]) c122_4)
def c122_3 : AC := .seq a122_3 c122_5
theorem e122_3 : WC C call L c122_3 F S Q = WC C call L a122_3 F S (thenK (fun F S => WC C call L c122_5 F S Q) Q) := id rfl
def a122_2 : AC := (.seq (.reg [⟨(some 13), none, .mv (.t 7)⟩,
 ⟨(some 14), none, .un .not (.t 13)⟩]) (.cond (.t 14) (.seq (.reg [⟨(some 15), none, .ldn 6 (.t 2)⟩,
 ⟨none, none, .st 6 (.t 4) (.t 15)⟩,
 ⟨(some 5), none, .mv (.c (.int .i64 7))⟩]) .ret) .skip))
def c122_2 : AC := .seq a122_2 c122_3
theorem e122_2 : WC C call L c122_2 F S Q = WC C call L a122_2 F S (thenK (fun F S => WC C call L c122_3 F S Q) Q) := id rfl
def a122_1 : AC := (.reg [⟨(some 9), none, .ldn 6 (.t 2)⟩,
 ⟨(some 10), none, .call 114 [(.t 9)]⟩,
 ⟨(some 8), none, .mv (.t 10)⟩,
 ⟨(some 11), none, .xt 0 (.t 8)⟩,
 ⟨(some 12), none, .xt 1 (.t 8)⟩,
 ⟨(some 6), none, .mv (.t 11)⟩,
 ⟨(some 7), none, .mv (.t 12)⟩])
def c122_1 : AC := .seq a122_1 c122_2
theorem e122_1 : WC C call L c122_1 F S Q = WC C call L a122_1 F S (thenK (fun F S => WC C call L c122_2 F S Q) Q) := id rfl
def a122 : AC := (.reg [⟨(some 2), none, .box (.t 0)⟩,
 ⟨(some 4), none, .alloc [(.int .i64 0), (.int .i64 0), (.int .i64 0), (.int .i64 0), (.bool false), (.int .i64 0)]⟩,
 ⟨(some 5), none, .mv (.c (.int .i64 0))⟩])
def c122 : AC := .seq a122 c122_1
theorem e122 : WC C call L c122 F S Q = WC C call L a122 F S (thenK (fun F S => WC C call L c122_1 F S Q) Q) := id rfl
theorem fn122 : (ctxE Try.prog kpN env).fn 122 = some ⟨31, [.cell 4 (some 6), .tmp 5], c122, .plain⟩ := by kernel_rfl
def a123_3 : AC := (.reg [⟨(some 20), none, .mv (.t 0)⟩,
 ⟨(some 21), none, .mv (.t 1)⟩,
 ⟨(some 22), none, .build [(.int .i64 0), (.int .i64 0), (.int .i64 0), (.int .i64 0), (.bool false), (.int .i64 0)] [(0, 1, (.t 20)), (2, 1, (.t 21)), (3, 1, (.c (.int .i64 1)))]⟩,
 ⟨none, none, .st 6 (.t 4) (.t 22)⟩,
 ⟨(some 5), none, .mv (.c (.int .i64 0))⟩])
def c123_3 : AC := .seq a123_3 .ret
theorem e123_3 : WC C call L c123_3 F S Q = WC C call L a123_3 F S (thenK (fun F S => WC C call L .ret F S Q) Q) := id rfl
def a123_2 : AC := (.seq (.reg [⟨(some 17), none, .mv (.t 1)⟩,
 ⟨(some 18), none, .bin .gtr (.t 17) (.c (.int .i64 4096))⟩]) (.cond (.t 18) (.seq (.reg [⟨(some 19), none, .build [(.int .i64 0), (.int .i64 0), (.int .i64 0), (.int .i64 0), (.bool false), (.int .i64 0)] []⟩,
 ⟨none, none, .st 6 (.t 4) (.t 19)⟩,
 ⟨(some 5), none, .mv (.c (.int .i64 3))⟩]) .ret) .skip))
def c123_2 : AC := .seq a123_2 c123_3
theorem e123_2 : WC C call L c123_2 F S Q = WC C call L a123_2 F S (thenK (fun F S => WC C call L c123_3 F S Q) Q) := id rfl
def a123_1 : AC := (.seq (.reg [⟨(some 6), none, .mv (.t 0)⟩,
 ⟨(some 7), none, .bin .lss (.t 6) (.c (.int .i64 1))⟩,
 ⟨(some 8), none, .mv (.t 7)⟩,
 ⟨(some 9), (some (8, false)), .mv (.t 0)⟩,
 ⟨(some 10), (some (8, false)), .bin .gtr (.t 9) (.c (.int .i64 3))⟩,
 ⟨(some 11), none, .pick (.t 8) (.c (.bool true)) (.t 10)⟩,
 ⟨(some 12), none, .mv (.t 11)⟩,
 ⟨(some 13), (some (12, false)), .mv (.t 1)⟩,
 ⟨(some 14), (some (12, false)), .bin .lss (.t 13) (.c (.int .i64 1))⟩,
 ⟨(some 15), none, .pick (.t 12) (.c (.bool true)) (.t 14)⟩]) (.cond (.t 15) (.seq (.reg [⟨(some 16), none, .build [(.int .i64 0), (.int .i64 0), (.int .i64 0), (.int .i64 0), (.bool false), (.int .i64 0)] []⟩,
 ⟨none, none, .st 6 (.t 4) (.t 16)⟩,
 ⟨(some 5), none, .mv (.c (.int .i64 1))⟩]) .ret) .skip))
def c123_1 : AC := .seq a123_1 c123_2
theorem e123_1 : WC C call L c123_1 F S Q = WC C call L a123_1 F S (thenK (fun F S => WC C call L c123_2 F S Q) Q) := id rfl
def a123 : AC := (.reg [⟨(some 4), none, .alloc [(.int .i64 0), (.int .i64 0), (.int .i64 0), (.int .i64 0), (.bool false), (.int .i64 0)]⟩,
 ⟨(some 5), none, .mv (.c (.int .i64 0))⟩])
def c123 : AC := .seq a123 c123_1
theorem e123 : WC C call L c123 F S Q = WC C call L a123 F S (thenK (fun F S => WC C call L c123_1 F S Q) Q) := id rfl
theorem fn123 : (ctxE Try.prog kpN env).fn 123 = some ⟨23, [.cell 4 (some 6), .tmp 5], c123, .plain⟩ := by kernel_rfl
def a146_1 : AC := (.reg [⟨(some 3), none, .mv (.t 0)⟩,
 ⟨(some 4), none, .bin .geq (.t 3) (.c (.int .i64 1))⟩,
 ⟨(some 5), none, .mv (.t 4)⟩,
 ⟨(some 6), (some (5, true)), .mv (.t 0)⟩,
 ⟨(some 7), (some (5, true)), .bin .leq (.t 6) (.c (.int .i64 64))⟩,
 ⟨(some 8), none, .pick (.t 5) (.t 7) (.c (.bool false))⟩,
 ⟨(some 2), none, .mv (.t 8)⟩])
def c146_1 : AC := .seq a146_1 .ret
theorem e146_1 : WC C call L c146_1 F S Q = WC C call L a146_1 F S (thenK (fun F S => WC C call L .ret F S Q) Q) := id rfl
def a146 : AC := (.reg [⟨(some 2), none, .mv (.c (.bool false))⟩])
def c146 : AC := .seq a146 c146_1
theorem e146 : WC C call L c146 F S Q = WC C call L a146 F S (thenK (fun F S => WC C call L c146_1 F S Q) Q) := id rfl
theorem fn146 : (ctxE Try.prog kpN env).fn 146 = some ⟨9, [.tmp 2], c146, .plain⟩ := by kernel_rfl
def a147_7 : AC := (.cond (.t 15) (.seq (.reg [⟨(some 17), none, .fad 2 (.t 1)⟩,
 ⟨(some 18), none, .ld1 (.t 17)⟩,
 ⟨(some 19), none, .build [.nils] [(0, 1, (.t 18))]⟩,
 ⟨(some 20), none, .mkif 221 (.t 19)⟩,
 ⟨(some 2), none, .mv (.t 20)⟩]) .ret) .skip)
def c147_7 : AC := a147_7
def a147_6 : AC := (.reg [⟨(some 16), none, .bin .eql (.t 4) (.c (.int .i64 3))⟩,
 ⟨(some 15), none, .mv (.t 16)⟩])
def c147_6 : AC := .seq a147_6 c147_7
def a147_5 : AC := (.cond (.t 11) (.seq (.reg [⟨(some 13), none, .build [] []⟩,
 ⟨(some 14), none, .mkif 219 (.t 13)⟩,
 ⟨(some 2), none, .mv (.t 14)⟩]) .ret) c147_6)
def c147_5 : AC := a147_5
def a147_4 : AC := (.reg [⟨(some 12), none, .bin .eql (.t 4) (.c (.int .i64 2))⟩,
 ⟨(some 11), none, .mv (.t 12)⟩])
def c147_4 : AC := .seq a147_4 c147_5
def a147_3 : AC := (.cond (.t 5) (.seq (.reg [⟨(some 7), none, .fad 1 (.t 1)⟩,
 ⟨(some 8), none, .ld1 (.t 7)⟩,
 ⟨(some 9), none, .build [.nils] [(0, 1, (.t 8))]⟩,
 ⟨(some 10), none, .mkif 216 (.t 9)⟩,
 ⟨(some 2), none, .mv (.t 10)⟩]) .ret) c147_4)
def c147_3 : AC := a147_3
theorem e147_3 : WC C call L c147_3 F S Q = WC C call L a147_3 F S Q := id rfl
def a147_2 : AC := (.block 0 (.seq (.reg [⟨(some 6), none, .bin .eql (.t 4) (.c (.int .i64 1))⟩,
 ⟨(some 5), none, .mv (.t 6)⟩]) c147_3))
def c147_2 : AC := a147_2
theorem e147_2 : WC C call L c147_2 F S Q = WC C call L a147_2 F S Q := id rfl
def a147_1 : AC := (.seq (.reg [⟨(some 3), none, .fad 0 (.t 1)⟩,
 ⟨(some 4), none, .ld1 (.t 3)⟩]) c147_2)
def c147_1 : AC := .seq a147_1 (.seq (.reg [⟨(some 2), none, .mv (.c .nili)⟩]) .ret)
theorem e147_1 : WC C call L c147_1 F S Q = WC C call L a147_1 F S (thenK (fun F S => WC C call L (.seq (.reg [⟨(some 2), none, .mv (.c .nili)⟩]) .ret) F S Q) Q) := id rfl
def a147 : AC := (.reg [⟨(some 1), none, .box (.t 0)⟩,
 ⟨(some 2), none, .mv (.c .nili)⟩])
def c147 : AC := .seq a147 c147_1
theorem e147 : WC C call L c147 F S Q = WC C call L a147 F S (thenK (fun F S => WC C call L c147_1 F S Q) Q) := id rfl
theorem fn147 : (ctxE Try.prog kpN env).fn 147 = some ⟨21, [.tmp 2], c147, .plain⟩ := by kernel_rfl
def a148_4 : AC := (.cond (.t 16) (.reg [⟨(some 5), none, .mv (.c (.int .i64 1))⟩,
 ⟨none, none, .st 1 (.t 6) (.c (.int .i64 2))⟩]) (.seq (.reg [⟨(some 19), none, .bin .eql (.t 15) (.c (.int .i64 2))⟩,
 ⟨(some 18), none, .mv (.t 19)⟩]) (.cond (.t 18) .skip (.seq (.reg [⟨(some 4), none, .mv (.c (.bool false))⟩]) .ret))))
def c148_4 : AC := a148_4
theorem e148_4 : WC C call L c148_4 F S Q = WC C call L a148_4 F S Q := id rfl
def a148_3 : AC := (.block 0 (.seq (.reg [⟨(some 17), none, .bin .eql (.t 15) (.c (.int .i64 1))⟩,
 ⟨(some 16), none, .mv (.t 17)⟩]) c148_4))
def c148_3 : AC := a148_3
theorem e148_3 : WC C call L c148_3 F S Q = WC C call L a148_3 F S Q := id rfl
def a148_5 : AC := (.reg [⟨(some 20), none, .mv (.t 1)⟩,
 ⟨(some 21), none, .len 0 (.t 20)⟩,
 ⟨(some 22), none, .mv (.t 5)⟩,
 ⟨(some 23), none, .bin .eql (.t 21) (.t 22)⟩,
 ⟨(some 24), none, .mv (.t 23)⟩,
 ⟨(some 25), (some (24, true)), .mv (.t 1)⟩,
 ⟨(some 26), (some (24, true)), .mkfn (.func 172) [] [(.t 6)]⟩,
 ⟨(some 27), (some (24, true)), .call 171 [(.t 25), (.t 26)]⟩,
 ⟨(some 28), (some (24, true)), .un .not (.t 27)⟩,
 ⟨(some 29), none, .pick (.t 24) (.t 28) (.c (.bool false))⟩,
 ⟨(some 4), none, .mv (.t 29)⟩])
def c148_5 : AC := .seq a148_5 .ret
theorem e148_5 : WC C call L c148_5 F S Q = WC C call L a148_5 F S (thenK (fun F S => WC C call L .ret F S Q) Q) := id rfl
def a148_2 : AC := (.seq (.reg [⟨(some 13), none, .fad 2 (.t 2)⟩,
 ⟨(some 14), none, .fad 0 (.t 13)⟩,
 ⟨(some 15), none, .ld1 (.t 14)⟩]) c148_3)
def c148_2 : AC := .seq a148_2 c148_5
theorem e148_2 : WC C call L c148_2 F S Q = WC C call L a148_2 F S (thenK (fun F S => WC C call L c148_5 F S Q) Q) := id rfl
def a148_1 : AC := (.draw [(⟨(some 7), none, .fad 1 (.t 2)⟩, [], [2]),
 (⟨(some 8), none, .ld1 (.t 7)⟩, [0], [7]),
 (⟨(some 9), none, .len 0 (.t 8)⟩, [1, 0], [8]),
 (⟨(some 10), none, .fad 2 (.t 2)⟩, [], [2]),
 (⟨(some 11), none, .fad 2 (.t 10)⟩, [3], [10]),
 (⟨(some 12), none, .ld1 (.t 11)⟩, [4, 3], [11]),
 (⟨(some 6), none, .alloc [(.int .i64 0)]⟩, [], []),
 (⟨(some 5), none, .mv (.t 9)⟩, [2, 1, 0, 6], [9]),
 (⟨none, none, .st 1 (.t 6) (.t 12)⟩, [5, 4, 3, 7, 2, 1, 0, 6], [6, 12])])
def c148_1 : AC := .seq a148_1 c148_2
theorem e148_1 : WC C call L c148_1 F S Q = WC C call L a148_1 F S (thenK (fun F S => WC C call L c148_2 F S Q) Q) := id rfl
def a148 : AC := (.reg [⟨(some 2), none, .box (.t 0)⟩,
 ⟨(some 4), none, .mv (.c (.bool false))⟩])
def c148 : AC := .seq a148 c148_1
theorem e148 : WC C call L c148 F S Q = WC C call L a148 F S (thenK (fun F S => WC C call L c148_1 F S Q) Q) := id rfl
theorem fn148 : (ctxE Try.prog kpN env).fn 148 = some ⟨30, [.tmp 4], c148, .plain⟩ := by kernel_rfl
def a150_3 : AC := (.cond (.t 12) .skip (.reg [⟨(some 16), none, .fad 1 (.t 1)⟩,
 ⟨(some 17), none, .ld1 (.t 16)⟩,
 ⟨(some 18), none, .bin .gtr (.t 17) (.c (.int .i64 64))⟩,
 ⟨(some 12), none, .mv (.t 18)⟩]))
def c150_3 : AC := a150_3
theorem e150_3 : WC C call L c150_3 F S Q = WC C call L a150_3 F S Q := id rfl
def a150_6 : AC := (.cond (.t 28) .skip (.reg [⟨(some 32), none, .fad 2 (.t 1)⟩,
 ⟨(some 33), none, .ld1 (.t 32)⟩,
 ⟨(some 34), none, .bin .gtr (.t 33) (.c (.int .i64 64))⟩,
 ⟨(some 28), none, .mv (.t 34)⟩]))
def c150_6 : AC := a150_6
theorem e150_6 : WC C call L c150_6 F S Q = WC C call L a150_6 F S Q := id rfl
def a150_8 : AC := (.cond (.t 35) .skip (.reg [⟨(some 39), none, .fad 3 (.t 1)⟩,
 ⟨(some 40), none, .ld1 (.t 39)⟩,
 ⟨(some 41), none, .bin .gtr (.t 40) (.c (.int .i64 1024))⟩,
 ⟨(some 35), none, .mv (.t 41)⟩]))
def c150_8 : AC := a150_8
theorem e150_8 : WC C call L c150_8 F S Q = WC C call L a150_8 F S Q := id rfl
def a150_10 : AC := (.cond (.t 42) .skip (.draw [(⟨(some 52), none, .fad 5 (.t 1)⟩, [], [1]),
 (⟨(some 53), none, .ld1 (.t 52)⟩, [0], [52]),
 (⟨(some 54), none, .len 0 (.t 53)⟩, [1, 0], [53]),
 (⟨(some 55), none, .ldn 6 (.t 1)⟩, [], [1]),
 (⟨(some 56), none, .call 173 [(.t 55)]⟩, [3], [55]),
 (⟨(some 57), none, .bin .neq (.t 54) (.t 56)⟩, [2, 1, 0, 4, 3], [54, 56]),
 (⟨(some 42), none, .mv (.t 57)⟩, [5, 2, 1, 0, 4, 3], [57])]))
def c150_10 : AC := a150_10
theorem e150_10 : WC C call L c150_10 F S Q = WC C call L a150_10 F S Q := id rfl
def a150_9 : AC := (.seq (.reg [⟨(some 43), none, .fad 4 (.t 1)⟩,
 ⟨(some 44), none, .ld1 (.t 43)⟩,
 ⟨(some 45), none, .len 0 (.t 44)⟩,
 ⟨(some 46), none, .fad 3 (.t 1)⟩,
 ⟨(some 47), none, .ld1 (.t 46)⟩,
 ⟨(some 48), none, .fad 1 (.t 1)⟩,
 ⟨(some 49), none, .ld1 (.t 48)⟩,
 ⟨(some 50), none, .bin .mul (.t 47) (.t 49)⟩,
 ⟨(some 51), none, .bin .neq (.t 45) (.t 50)⟩,
 ⟨(some 42), none, .mv (.t 51)⟩]) c150_10)
def c150_9 : AC := .seq a150_9 (.cond (.t 42) (.exit 6) .skip)
theorem e150_9 : WC C call L c150_9 F S Q = WC C call L a150_9 F S (thenK (fun F S => WC C call L (.cond (.t 42) (.exit 6) .skip) F S Q) Q) := id rfl
def a150_7 : AC := (.seq (.seq (.reg [⟨(some 36), none, .fad 3 (.t 1)⟩,
 ⟨(some 37), none, .ld1 (.t 36)⟩,
 ⟨(some 38), none, .bin .lss (.t 37) (.c (.int .i64 1))⟩,
 ⟨(some 35), none, .mv (.t 38)⟩]) c150_8) (.cond (.t 35) (.exit 5) .skip))
def c150_7 : AC := .seq a150_7 c150_9
theorem e150_7 : WC C call L c150_7 F S Q = WC C call L a150_7 F S (thenK (fun F S => WC C call L c150_9 F S Q) Q) := id rfl
def a150_5 : AC := (.seq (.seq (.reg [⟨(some 29), none, .fad 2 (.t 1)⟩,
 ⟨(some 30), none, .ld1 (.t 29)⟩,
 ⟨(some 31), none, .bin .lss (.t 30) (.c (.int .i64 1))⟩,
 ⟨(some 28), none, .mv (.t 31)⟩]) c150_6) (.cond (.t 28) (.exit 4) .skip))
def c150_5 : AC := .seq a150_5 c150_7
theorem e150_5 : WC C call L c150_5 F S Q = WC C call L a150_5 F S (thenK (fun F S => WC C call L c150_7 F S Q) Q) := id rfl
def a150_4 : AC := (.seq (.reg [⟨(some 20), none, .fad 0 (.t 1)⟩,
 ⟨(some 21), none, .ld1 (.t 20)⟩,
 ⟨(some 22), none, .bin .eql (.t 21) (.c (.int .i64 1))⟩,
 ⟨(some 23), none, .mv (.t 22)⟩,
 ⟨(some 24), (some (23, true)), .fad 2 (.t 1)⟩,
 ⟨(some 25), (some (23, true)), .ld1 (.t 24)⟩,
 ⟨(some 26), (some (23, true)), .bin .neq (.t 25) (.c (.int .i64 2))⟩,
 ⟨(some 27), none, .pick (.t 23) (.t 26) (.c (.bool false))⟩,
 ⟨(some 19), none, .mv (.t 27)⟩]) (.cond (.t 19) (.exit 3) .skip))
def c150_4 : AC := .seq a150_4 c150_5
theorem e150_4 : WC C call L c150_4 F S Q = WC C call L a150_4 F S (thenK (fun F S => WC C call L c150_5 F S Q) Q) := id rfl
def a150_2 : AC := (.seq (.seq (.reg [⟨(some 13), none, .fad 1 (.t 1)⟩,
 ⟨(some 14), none, .ld1 (.t 13)⟩,
 ⟨(some 15), none, .bin .lss (.t 14) (.c (.int .i64 1))⟩,
 ⟨(some 12), none, .mv (.t 15)⟩]) c150_3) (.cond (.t 12) (.exit 2) .skip))
def c150_2 : AC := .seq a150_2 c150_4
theorem e150_2 : WC C call L c150_2 F S Q = WC C call L a150_2 F S (thenK (fun F S => WC C call L c150_4 F S Q) Q) := id rfl
def a150_1 : AC := (.block 0 (.seq (.block 6 (.seq (.block 5 (.seq (.block 4 (.block 3 (.seq (.block 2 (.seq (.block 1 (.seq (.seq (.seq (.reg [⟨(some 4), none, .fad 0 (.t 1)⟩,
 ⟨(some 5), none, .ld1 (.t 4)⟩,
 ⟨(some 6), none, .bin .neq (.t 5) (.c (.int .i64 1))⟩,
 ⟨(some 7), none, .mv (.t 6)⟩,
 ⟨(some 8), (some (7, true)), .fad 0 (.t 1)⟩,
 ⟨(some 9), (some (7, true)), .ld1 (.t 8)⟩,
 ⟨(some 10), (some (7, true)), .bin .neq (.t 9) (.c (.int .i64 2))⟩,
 ⟨(some 11), none, .pick (.t 7) (.t 10) (.c (.bool false))⟩,
 ⟨(some 3), none, .mv (.t 11)⟩]) (.cond (.t 3) (.exit 1) .skip)) c150_2) (.exit 0))) (.seq (.seq (.reg [⟨(some 2), none, .mv (.c (.int .i64 30))⟩]) .ret) (.exit 0)))) (.seq (.seq (.reg [⟨(some 2), none, .mv (.c (.int .i64 1))⟩]) .ret) (.exit 0))))) (.seq (.seq (.reg [⟨(some 2), none, .mv (.c (.int .i64 33))⟩]) .ret) (.exit 0)))) (.seq (.seq (.reg [⟨(some 2), none, .mv (.c (.int .i64 3))⟩]) .ret) (.exit 0)))) (.seq (.seq (.reg [⟨(some 2), none, .mv (.c (.int .i64 31))⟩]) .ret) (.exit 0))))
def c150_1 : AC := .seq a150_1 (.seq (.reg [⟨(some 2), none, .mv (.c (.int .i64 0))⟩]) .ret)
theorem e150_1 : WC C call L c150_1 F S Q = WC C call L a150_1 F S (thenK (fun F S => WC C call L (.seq (.reg [⟨(some 2), none, .mv (.c (.int .i64 0))⟩]) .ret) F S Q) Q) := id rfl
def a150 : AC := (.reg [⟨(some 1), none, .box (.t 0)⟩,
 ⟨(some 2), none, .mv (.c (.int .i64 0))⟩])
def c150 : AC := .seq a150 c150_1
theorem e150 : WC C call L c150 F S Q = WC C call L a150 F S (thenK (fun F S => WC C call L c150_1 F S Q) Q) := id rfl
theorem fn150 : (ctxE Try.prog kpN env).fn 150 = some ⟨58, [.tmp 2], c150, .plain⟩ := by kernel_rfl
def a151_6 : AC := (.reg [⟨(some 11), none, .mv (.t 0)⟩,
 ⟨(some 12), none, .mv (.t 5)⟩,
 ⟨(some 13), none, .ixs 1 (.t 11) (.t 12)⟩,
 ⟨(some 14), none, .ld1 (.t 13)⟩,
 ⟨(some 15), none, .cvi .u64 (.t 14)⟩,
 ⟨(some 16), none, .mv (.t 1)⟩,
 ⟨(some 17), none, .cvi .u64 (.t 16)⟩,
 ⟨(some 18), none, .bin .geq (.t 15) (.t 17)⟩])
def c151_6 : AC := .seq a151_6 (.cond (.t 18) (.seq (.reg [⟨(some 19), none, .mv (.t 5)⟩,
 ⟨(some 4), none, .mv (.t 19)⟩]) .ret) .skip)
theorem e151_6 : WC C call L c151_6 F S Q = WC C call L a151_6 F S (thenK (fun F S => WC C call L (.cond (.t 18) (.seq (.reg [⟨(some 19), none, .mv (.t 5)⟩,
 ⟨(some 4), none, .mv (.t 19)⟩]) .ret) .skip) F S Q) Q) := id rfl
def a151_5 : AC := (.block 1 (.seq (.reg [⟨(some 10), none, .mv (.t 8)⟩,
 ⟨(some 5), none, .mv (.t 10)⟩]) c151_6))
def c151_5 : AC := .seq a151_5 (.reg [⟨(some 20), none, .bin .add (.t 8) (.c (.int .i64 1))⟩,
 ⟨(some 8), none, .mv (.t 20)⟩])
theorem e151_5 : WC C call L c151_5 F S Q = WC C call L a151_5 F S (thenK (fun F S => WC C call L (.reg [⟨(some 20), none, .bin .add (.t 8) (.c (.int .i64 1))⟩,
 ⟨(some 8), none, .mv (.t 20)⟩]) F S Q) Q) := id rfl
def a151_4 : AC := (.cond (.t 9) .skip (.exit 0))
def c151_4 : AC := .seq a151_4 c151_5
theorem e151_4 : WC C call L c151_4 F S Q = WC C call L a151_4 F S (thenK (fun F S => WC C call L c151_5 F S Q) Q) := id rfl
def a151_3 : AC := (.reg [⟨(some 9), none, .bin .lss (.t 8) (.t 7)⟩])
def c151_3 : AC := .seq a151_3 c151_4
theorem e151_3 : WC C call L c151_3 F S Q = WC C call L a151_3 F S (thenK (fun F S => WC C call L c151_4 F S Q) Q) := id rfl
def a151_2 : AC := (.block 0 (.loop [0, 1, 4, 5, 7, 8, 9, 18] c151_3))
def c151_2 : AC := a151_2
theorem e151_2 : WC C call L c151_2 F S Q = WC C call L a151_2 F S Q := id rfl
def a151_1 : AC := (.seq (.reg [⟨(some 6), none, .mv (.t 0)⟩,
 ⟨(some 7), none, .len 0 (.t 6)⟩,
 ⟨(some 8), none, .mv (.c (.int .i64 0))⟩]) c151_2)
def c151_1 : AC := .seq a151_1 (.seq (.reg [⟨(some 4), none, .mv (.c (.int .i64 (-1)))⟩]) .ret)
theorem e151_1 : WC C call L c151_1 F S Q = WC C call L a151_1 F S (thenK (fun F S => WC C call L (.seq (.reg [⟨(some 4), none, .mv (.c (.int .i64 (-1)))⟩]) .ret) F S Q) Q) := id rfl
def a151 : AC := (.reg [⟨(some 4), none, .mv (.c (.int .i64 0))⟩])
def c151 : AC := .seq a151 c151_1
theorem e151 : WC C call L c151 F S Q = WC C call L a151 F S (thenK (fun F S => WC C call L c151_1 F S Q) Q) := id rfl
theorem fn151 : (ctxE Try.prog kpN env).fn 151 = some ⟨21, [.tmp 4], c151, .plain⟩ := by kernel_rfl
def a152_3 : AC := (.cond (.t 22) (.seq (.reg [⟨(some 23), none, .mv (.t 10)⟩,
 ⟨(some 6), none, .mv (.c (.int .i64 0))⟩,
 ⟨(some 7), none, .mv (.c .nils)⟩,
 ⟨(some 8), none, .mv (.t 23)⟩]) .ret) .skip)
def c152_3 : AC := a152_3
theorem e152_3 : WC C call L c152_3 F S Q = WC C call L a152_3 F S Q := id rfl
def a152_2 : AC := (.reg [⟨(some 21), none, .mv (.t 10)⟩,
 ⟨(some 22), none, .bin .neq (.t 21) (.c (.int .i64 0))⟩])
def c152_2 : AC := .seq a152_2 c152_3
theorem e152_2 : WC C call L c152_2 F S Q = WC C call L a152_2 F S (thenK (fun F S => WC C call L c152_3 F S Q) Q) := id rfl
def a152_7 : AC := (.cond (.t 40) (.seq (.reg [⟨(some 41), none, .mv (.t 12)⟩,
 ⟨(some 6), none, .mv (.c (.int .i64 0))⟩,
 ⟨(some 7), none, .mv (.c .nils)⟩,
 ⟨(some 8), none, .mv (.t 41)⟩]) .ret) .skip)
def c152_7 : AC := a152_7
theorem e152_7 : WC C call L c152_7 F S Q = WC C call L a152_7 F S Q := id rfl
def a152_6 : AC := (.reg [⟨(some 39), none, .mv (.t 12)⟩,
 ⟨(some 40), none, .bin .neq (.t 39) (.c (.int .i64 0))⟩])
def c152_6 : AC := .seq a152_6 c152_7
theorem e152_6 : WC C call L c152_6 F S Q = WC C call L a152_6 F S (thenK (fun F S => WC C call L c152_7 F S Q) Q) := id rfl
def a152_16 : AC := (.reg [⟨(some 57), none, .mv (.t 7)⟩,
 ⟨(some 58), none, .fad 5 (.t 3)⟩,
 ⟨(some 59), none, .ld1 (.t 58)⟩,
 ⟨(some 60), none, .mv (.t 15)⟩,
 ⟨(some 61), none, .ixs 1 (.t 59) (.t 60)⟩,
 ⟨(some 62), none, .ld1 (.t 61)⟩,
 ⟨(some 63), none, .bslice 1 1 [(.int .i64 0)] [(0, 1, (.t 62))]⟩,
 ⟨(some 64), none, .app 1 8 (.t 57) (.t 63)⟩,
 ⟨(some 7), none, .mv (.t 64)⟩])
def c152_16 : AC := a152_16
theorem e152_16 : WC C call L c152_16 F S Q = WC C call L a152_16 F S Q := id rfl
def a152_15 : AC := (.cond (.t 56) c152_16 .skip)
def c152_15 : AC := a152_15
theorem e152_15 : WC C call L c152_15 F S Q = WC C call L a152_15 F S Q := id rfl
def a152_17 : AC := (.reg [⟨(some 65), none, .fad 4 (.t 3)⟩,
 ⟨(some 66), none, .ld1 (.t 65)⟩,
 ⟨(some 67), none, .mv (.t 15)⟩,
 ⟨(some 68), none, .ixs 1 (.t 66) (.t 67)⟩,
 ⟨(some 69), none, .ld1 (.t 68)⟩,
 ⟨(some 1), none, .mv (.t 69)⟩])
def c152_17 : AC := a152_17
theorem e152_17 : WC C call L c152_17 F S Q = WC C call L a152_17 F S Q := id rfl
def a152_14 : AC := (.seq (.reg [⟨(some 54), none, .fad 0 (.t 3)⟩,
 ⟨(some 55), none, .ld1 (.t 54)⟩,
 ⟨(some 56), none, .bin .eql (.t 55) (.c (.int .i64 2))⟩]) c152_15)
def c152_14 : AC := .seq a152_14 c152_17
theorem e152_14 : WC C call L c152_14 F S Q = WC C call L a152_14 F S (thenK (fun F S => WC C call L c152_17 F S Q) Q) := id rfl
def a152_13 : AC := (.reg [⟨(some 48), none, .mv (.t 1)⟩,
 ⟨(some 49), none, .fad 1 (.t 3)⟩,
 ⟨(some 50), none, .ld1 (.t 49)⟩,
 ⟨(some 51), none, .bin .mul (.t 48) (.t 50)⟩,
 ⟨(some 52), none, .mv (.t 14)⟩,
 ⟨(some 53), none, .bin .add (.t 51) (.t 52)⟩,
 ⟨(some 15), none, .mv (.t 53)⟩])
def c152_13 : AC := .seq a152_13 c152_14
theorem e152_13 : WC C call L c152_13 F S Q = WC C call L a152_13 F S (thenK (fun F S => WC C call L c152_14 F S Q) Q) := id rfl
def a152_12 : AC := (.block 1 (.seq (.reg [⟨(some 46), none, .ixs 1 (.t 42) (.t 44)⟩,
 ⟨(some 47), none, .ld1 (.t 46)⟩,
 ⟨(some 14), none, .mv (.t 47)⟩]) c152_13))
def c152_12 : AC := .seq a152_12 (.reg [⟨(some 70), none, .bin .add (.t 44) (.c (.int .i64 1))⟩,
 ⟨(some 44), none, .mv (.t 70)⟩])
theorem e152_12 : WC C call L c152_12 F S Q = WC C call L a152_12 F S (thenK (fun F S => WC C call L (.reg [⟨(some 70), none, .bin .add (.t 44) (.c (.int .i64 1))⟩,
 ⟨(some 44), none, .mv (.t 70)⟩]) F S Q) Q) := id rfl
def a152_11 : AC := (.cond (.t 45) .skip (.exit 0))
def c152_11 : AC := .seq a152_11 c152_12
theorem e152_11 : WC C call L c152_11 F S Q = WC C call L a152_11 F S (thenK (fun F S => WC C call L c152_12 F S Q) Q) := id rfl
def a152_10 : AC := (.reg [⟨(some 45), none, .bin .lss (.t 44) (.t 43)⟩])
def c152_10 : AC := .seq a152_10 c152_11
theorem e152_10 : WC C call L c152_10 F S Q = WC C call L a152_10 F S (thenK (fun F S => WC C call L c152_11 F S Q) Q) := id rfl
def a152_9 : AC := (.block 0 (.loop [0, 1, 2, 3, 6, 7, 8, 10, 12, 14, 15, 22, 31, 40, 42, 43, 44, 45, 56, 73] c152_10))
def c152_9 : AC := a152_9
theorem e152_9 : WC C call L c152_9 F S Q = WC C call L a152_9 F S Q := id rfl
def a152_19 : AC := (.cond (.t 73) (.reg [⟨(some 74), none, .fad 5 (.t 3)⟩,
 ⟨(some 75), none, .ld1 (.t 74)⟩,
 ⟨(some 76), none, .mv (.t 1)⟩,
 ⟨(some 77), none, .ixs 1 (.t 75) (.t 76)⟩,
 ⟨(some 78), none, .ld1 (.t 77)⟩,
 ⟨(some 79), none, .bslice 1 1 [(.int .i64 0)] [(0, 1, (.t 78))]⟩,
 ⟨(some 7), none, .mv (.t 79)⟩]) .skip)
def c152_19 : AC := a152_19
theorem e152_19 : WC C call L c152_19 F S Q = WC C call L a152_19 F S Q := id rfl
def a152_20 : AC := (.reg [⟨(some 80), none, .mv (.t 1)⟩,
 ⟨(some 81), none, .mv (.t 7)⟩,
 ⟨(some 6), none, .mv (.t 80)⟩,
 ⟨(some 7), none, .mv (.t 81)⟩,
 ⟨(some 8), none, .mv (.c (.int .i64 0))⟩])
def c152_20 : AC := .seq a152_20 .ret
theorem e152_20 : WC C call L c152_20 F S Q = WC C call L a152_20 F S (thenK (fun F S => WC C call L .ret F S Q) Q) := id rfl
def a152_18 : AC := (.seq (.reg [⟨(some 71), none, .fad 0 (.t 3)⟩,
 ⟨(some 72), none, .ld1 (.t 71)⟩,
 ⟨(some 73), none, .bin .eql (.t 72) (.c (.int .i64 1))⟩]) c152_19)
def c152_18 : AC := .seq a152_18 c152_20
theorem e152_18 : WC C call L c152_18 F S Q = WC C call L a152_18 F S (thenK (fun F S => WC C call L c152_20 F S Q) Q) := id rfl
def a152_8 : AC := (.seq (.reg [⟨(some 42), none, .mv (.t 2)⟩,
 ⟨(some 43), none, .len 0 (.t 42)⟩,
 ⟨(some 44), none, .mv (.c (.int .i64 0))⟩]) c152_9)
def c152_8 : AC := .seq a152_8 c152_18
theorem e152_8 : WC C call L c152_8 F S Q = WC C call L a152_8 F S (thenK (fun F S => WC C call L c152_18 F S Q) Q) := id rfl
def a152_5 : AC := (.seq (.reg [⟨(some 33), none, .mv (.t 2)⟩,
 ⟨(some 34), none, .fad 1 (.t 3)⟩,
 ⟨(some 35), none, .ld1 (.t 34)⟩,
 ⟨(some 36), none, .call 89 [(.t 33), (.t 35)]⟩,
 ⟨(some 32), none, .mv (.t 36)⟩,
 ⟨(some 37), none, .xt 0 (.t 32)⟩,
 ⟨(some 38), none, .xt 1 (.t 32)⟩,
 ⟨(some 11), none, .mv (.t 37)⟩,
 ⟨(some 12), none, .mv (.t 38)⟩]) c152_6)
def c152_5 : AC := .seq a152_5 c152_8
theorem e152_5 : WC C call L c152_5 F S Q = WC C call L a152_5 F S (thenK (fun F S => WC C call L c152_8 F S Q) Q) := id rfl
def a152_4 : AC := (.seq (.reg [⟨(some 24), none, .mv (.t 1)⟩,
 ⟨(some 25), none, .bin .lss (.t 24) (.c (.int .i64 0))⟩,
 ⟨(some 26), none, .mv (.t 25)⟩,
 ⟨(some 27), (some (26, false)), .mv (.t 1)⟩,
 ⟨(some 28), (some (26, false)), .fad 3 (.t 3)⟩,
 ⟨(some 29), (some (26, false)), .ld1 (.t 28)⟩,
 ⟨(some 30), (some (26, false)), .bin .geq (.t 27) (.t 29)⟩,
 ⟨(some 31), none, .pick (.t 26) (.c (.bool true)) (.t 30)⟩]) (.cond (.t 31) (.seq (.reg [⟨(some 6), none, .mv (.c (.int .i64 0))⟩,
 ⟨(some 7), none, .mv (.c .nils)⟩,
 ⟨(some 8), none, .mv (.c (.int .i64 32))⟩]) .ret) .skip))
def c152_4 : AC := .seq a152_4 c152_5
theorem e152_4 : WC C call L c152_4 F S Q = WC C call L a152_4 F S (thenK (fun F S => WC C call L c152_5 F S Q) Q) := id rfl
def a152_1 : AC := (.seq (.reg [⟨(some 17), none, .ldn 6 (.t 3)⟩,
 ⟨(some 18), none, .call 109 [(.t 17)]⟩,
 ⟨(some 16), none, .mv (.t 18)⟩,
 ⟨(some 19), none, .xt 0 (.t 16)⟩,
 ⟨(some 20), none, .xt 1 (.t 16)⟩,
 ⟨(some 9), none, .mv (.t 19)⟩,
 ⟨(some 10), none, .mv (.t 20)⟩]) c152_2)
def c152_1 : AC := .seq a152_1 c152_4
theorem e152_1 : WC C call L c152_1 F S Q = WC C call L a152_1 F S (thenK (fun F S => WC C call L c152_4 F S Q) Q) := id rfl
def a152 : AC := (.reg [⟨(some 3), none, .box (.t 0)⟩,
 ⟨(some 6), none, .mv (.c (.int .i64 0))⟩,
 ⟨(some 7), none, .mv (.c .nils)⟩,
 ⟨(some 8), none, .mv (.c (.int .i64 0))⟩])
def c152 : AC := .seq a152 c152_1
theorem e152 : WC C call L c152 F S Q = WC C call L a152 F S (thenK (fun F S => WC C call L c152_1 F S Q) Q) := id rfl
theorem fn152 : (ctxE Try.prog kpN env).fn 152 = some ⟨82, [.tmp 6, .tmp 7, .tmp 8], c152, .plain⟩ := by kernel_rfl
def a156_8 : AC := (.reg [⟨(some 19), none, .mv (.t 3)⟩,
 ⟨(some 20), none, .bin .lss (.t 19) (.c (.int .i64 0))⟩])
def c156_8 : AC := .seq a156_8 (.cond (.t 20) (.reg [⟨(some 21), none, .mkif 9 (.c (.str [108, 101, 110, 32, 111, 117, 116, 32, 111, 102, 32, 114, 97, 110, 103, 101]))⟩,
 ⟨none, none, .pnc (.t 21)⟩]) .skip)
theorem e156_8 : WC C call L c156_8 F S Q = WC C call L a156_8 F S (thenK (fun F S => WC C call L (.cond (.t 20) (.reg [⟨(some 21), none, .mkif 9 (.c (.str [108, 101, 110, 32, 111, 117, 116, 32, 111, 102, 32, 114, 97, 110, 103, 101]))⟩,
 ⟨none, none, .pnc (.t 21)⟩]) .skip) F S Q) Q) := id rfl
def a156_7 : AC := (.reg [⟨(some 15), none, .mv (.t 3)⟩,
 ⟨(some 16), none, .mv (.t 5)⟩,
 ⟨(some 17), none, .len 0 (.t 16)⟩,
 ⟨(some 18), none, .bin .add (.t 15) (.t 17)⟩,
 ⟨(some 3), none, .mv (.t 18)⟩])
def c156_7 : AC := .seq a156_7 c156_8
theorem e156_7 : WC C call L c156_7 F S Q = WC C call L a156_7 F S (thenK (fun F S => WC C call L c156_8 F S Q) Q) := id rfl
def a156_6 : AC := (.block 1 (.seq (.reg [⟨(some 13), none, .ixs 1 (.t 9) (.t 11)⟩,
 ⟨(some 14), none, .ld1 (.t 13)⟩,
 ⟨(some 5), none, .mv (.t 14)⟩]) c156_7))
def c156_6 : AC := .seq a156_6 (.reg [⟨(some 22), none, .bin .add (.t 11) (.c (.int .i64 1))⟩,
 ⟨(some 11), none, .mv (.t 22)⟩])
theorem e156_6 : WC C call L c156_6 F S Q = WC C call L a156_6 F S (thenK (fun F S => WC C call L (.reg [⟨(some 22), none, .bin .add (.t 11) (.c (.int .i64 1))⟩,
 ⟨(some 11), none, .mv (.t 22)⟩]) F S Q) Q) := id rfl
def a156_5 : AC := (.cond (.t 12) .skip (.exit 0))
def c156_5 : AC := .seq a156_5 c156_6
theorem e156_5 : WC C call L c156_5 F S Q = WC C call L a156_5 F S (thenK (fun F S => WC C call L c156_6 F S Q) Q) := id rfl
def a156_4 : AC := (.reg [⟨(some 12), none, .bin .lss (.t 11) (.t 10)⟩])
def c156_4 : AC := .seq a156_4 c156_5
theorem e156_4 : WC C call L c156_4 F S Q = WC C call L a156_4 F S (thenK (fun F S => WC C call L c156_5 F S Q) Q) := id rfl
def a156_3 : AC := (.block 0 (.loop [0, 2, 3, 5, 6, 8, 9, 10, 11, 12, 20, 25, 26, 27, 28] c156_4))
def c156_3 : AC := a156_3
theorem e156_3 : WC C call L c156_3 F S Q = WC C call L a156_3 F S Q := id rfl
def a156_14 : AC := (.block 3 (.seq (.reg [⟨(some 29), none, .ixs 1 (.t 25) (.t 27)⟩,
 ⟨(some 30), none, .ld1 (.t 29)⟩,
 ⟨(some 8), none, .mv (.t 30)⟩]) (.reg [⟨(some 31), none, .mv (.t 6)⟩,
 ⟨(some 32), none, .mv (.t 8)⟩,
 ⟨(some 33), none, .app 1 8 (.t 31) (.t 32)⟩,
 ⟨(some 6), none, .mv (.t 33)⟩])))
def c156_14 : AC := .seq a156_14 (.reg [⟨(some 34), none, .bin .add (.t 27) (.c (.int .i64 1))⟩,
 ⟨(some 27), none, .mv (.t 34)⟩])
theorem e156_14 : WC C call L c156_14 F S Q = WC C call L a156_14 F S (thenK (fun F S => WC C call L (.reg [⟨(some 34), none, .bin .add (.t 27) (.c (.int .i64 1))⟩,
 ⟨(some 27), none, .mv (.t 34)⟩]) F S Q) Q) := id rfl
def a156_13 : AC := (.cond (.t 28) .skip (.exit 2))
def c156_13 : AC := .seq a156_13 c156_14
theorem e156_13 : WC C call L c156_13 F S Q = WC C call L a156_13 F S (thenK (fun F S => WC C call L c156_14 F S Q) Q) := id rfl
def a156_12 : AC := (.reg [⟨(some 28), none, .bin .lss (.t 27) (.t 26)⟩])
def c156_12 : AC := .seq a156_12 c156_13
theorem e156_12 : WC C call L c156_12 F S Q = WC C call L a156_12 F S (thenK (fun F S => WC C call L c156_13 F S Q) Q) := id rfl
def a156_11 : AC := (.block 2 (.loop [0, 2, 3, 5, 6, 8, 9, 10, 11, 12, 20, 25, 26, 27, 28] c156_12))
def c156_11 : AC := a156_11
theorem e156_11 : WC C call L c156_11 F S Q = WC C call L a156_11 F S Q := id rfl
def a156_10 : AC := (.seq (.reg [⟨(some 25), none, .mv (.t 0)⟩,
 ⟨(some 26), none, .len 0 (.t 25)⟩,
 ⟨(some 27), none, .mv (.c (.int .i64 0))⟩]) c156_11)
def c156_10 : AC := .seq a156_10 (.seq (.reg [⟨(some 35), none, .mv (.t 6)⟩,
 ⟨(some 2), none, .mv (.t 35)⟩]) .ret)
theorem e156_10 : WC C call L c156_10 F S Q = WC C call L a156_10 F S (thenK (fun F S => WC C call L (.seq (.reg [⟨(some 35), none, .mv (.t 6)⟩,
 ⟨(some 2), none, .mv (.t 35)⟩]) .ret) F S Q) Q) := id rfl
def a156_9 : AC := (.reg [⟨(some 23), none, .mv (.t 3)⟩,
 ⟨(some 24), none, .call 177 [(.c .nils), (.t 23)]⟩,
 ⟨(some 6), none, .mv (.t 24)⟩])
def c156_9 : AC := .seq a156_9 c156_10
theorem e156_9 : WC C call L c156_9 F S Q = WC C call L a156_9 F S (thenK (fun F S => WC C call L c156_10 F S Q) Q) := id rfl
def a156_2 : AC := (.seq (.reg [⟨(some 9), none, .mv (.t 0)⟩,
 ⟨(some 10), none, .len 0 (.t 9)⟩,
 ⟨(some 11), none, .mv (.c (.int .i64 0))⟩]) c156_3)
def c156_2 : AC := .seq a156_2 c156_9
theorem e156_2 : WC C call L c156_2 F S Q = WC C call L a156_2 F S (thenK (fun F S => WC C call L c156_9 F S Q) Q) := id rfl
def a156_1 : AC := (.reg [⟨(some 3), none, .mv (.c (.int .i64 0))⟩])
def c156_1 : AC := .seq a156_1 c156_2
theorem e156_1 : WC C call L c156_1 F S Q = WC C call L a156_1 F S (thenK (fun F S => WC C call L c156_2 F S Q) Q) := id rfl
def a156 : AC := (.reg [⟨(some 2), none, .mv (.c .nils)⟩])
def c156 : AC := .seq a156 c156_1
theorem e156 : WC C call L c156 F S Q = WC C call L a156 F S (thenK (fun F S => WC C call L c156_1 F S Q) Q) := id rfl
theorem fn156 : (ctxE Try.prog kpN env).fn 156 = some ⟨36, [.tmp 2], c156, .plain⟩ := by kernel_rfl
def a171_1 : AC := (.reg [⟨(some 5), none, .mv (.t 0)⟩,
 ⟨(some 6), none, .mv (.t 1)⟩,
 ⟨(some 7), none, .call 180 [(.t 5), (.t 6)]⟩,
 ⟨(some 8), none, .bin .geq (.t 7) (.c (.int .i64 0))⟩,
 ⟨(some 4), none, .mv (.t 8)⟩])
def c171_1 : AC := .seq a171_1 .ret
theorem e171_1 : WC C call L c171_1 F S Q = WC C call L a171_1 F S (thenK (fun F S => WC C call L .ret F S Q) Q) := id rfl
def a171 : AC := (.reg [⟨(some 4), none, .mv (.c (.bool false))⟩])
def c171 : AC := .seq a171 c171_1
theorem e171 : WC C call L c171 F S Q = WC C call L a171 F S (thenK (fun F S => WC C call L c171_1 F S Q) Q) := id rfl
theorem fn171 : (ctxE Try.prog kpN env).fn 171 = some ⟨9, [.tmp 4], c171, .plain⟩ := by kernel_rfl
def a172_1 : AC := (.reg [⟨(some 4), none, .mv (.t 0)⟩,
 ⟨(some 5), none, .bin .lss (.t 4) (.c (.int .i64 0))⟩,
 ⟨(some 6), none, .mv (.t 5)⟩,
 ⟨(some 7), (some (6, false)), .mv (.t 0)⟩,
 ⟨(some 8), (some (6, false)), .ld1 (.t 1)⟩,
 ⟨(some 9), (some (6, false)), .bin .geq (.t 7) (.t 8)⟩,
 ⟨(some 10), none, .pick (.t 6) (.c (.bool true)) (.t 9)⟩,
 ⟨(some 3), none, .mv (.t 10)⟩])
def c172_1 : AC := .seq a172_1 .ret
theorem e172_1 : WC C call L c172_1 F S Q = WC C call L a172_1 F S (thenK (fun F S => WC C call L .ret F S Q) Q) := id rfl
def a172 : AC := (.reg [⟨(some 3), none, .mv (.c (.bool false))⟩])
def c172 : AC := .seq a172 c172_1
theorem e172 : WC C call L c172 F S Q = WC C call L a172 F S (thenK (fun F S => WC C call L c172_1 F S Q) Q) := id rfl
theorem fn172 : (ctxE Try.prog kpN env).fn 172 = some ⟨11, [.tmp 3], c172, .plain⟩ := by kernel_rfl
def a173_2 : AC := (.reg [⟨(some 8), none, .fad 3 (.t 1)⟩,
 ⟨(some 9), none, .ld1 (.t 8)⟩,
 ⟨(some 10), none, .fad 1 (.t 1)⟩,
 ⟨(some 11), none, .ld1 (.t 10)⟩,
 ⟨(some 12), none, .bin .mul (.t 9) (.t 11)⟩,
 ⟨(some 2), none, .mv (.t 12)⟩])
def c173_2 : AC := .seq a173_2 .ret
theorem e173_2 : WC C call L c173_2 F S Q = WC C call L a173_2 F S (thenK (fun F S => WC C call L .ret F S Q) Q) := id rfl
def a173_1 : AC := (.seq (.reg [⟨(some 3), none, .fad 0 (.t 1)⟩,
 ⟨(some 4), none, .ld1 (.t 3)⟩,
 ⟨(some 5), none, .bin .eql (.t 4) (.c (.int .i64 1))⟩]) (.cond (.t 5) (.seq (.reg [⟨(some 6), none, .fad 3 (.t 1)⟩,
 ⟨(some 7), none, .ld1 (.t 6)⟩,
 ⟨(some 2), none, .mv (.t 7)⟩]) .ret) .skip))
def c173_1 : AC := .seq a173_1 c173_2
theorem e173_1 : WC C call L c173_1 F S Q = WC C call L a173_1 F S (thenK (fun F S => WC C call L c173_2 F S Q) Q) := id rfl
def a173 : AC := (.reg [⟨(some 1), none, .box (.t 0)⟩,
 ⟨(some 2), none, .mv (.c (.int .i64 0))⟩])
def c173 : AC := .seq a173 c173_1
theorem e173 : WC C call L c173 F S Q = WC C call L a173 F S (thenK (fun F S => WC C call L c173_1 F S Q) Q) := id rfl
theorem fn173 : (ctxE Try.prog kpN env).fn 173 = some ⟨13, [.tmp 2], c173, .plain⟩ := by kernel_rfl
def a177_5 : AC := (.reg [⟨(some 17), none, .mv (.t 0)⟩,
 ⟨(some 18), none, .mv (.t 0)⟩,
 ⟨(some 19), none, .cap (.t 18)⟩,
 ⟨(some 20), none, .slc 1 (.t 17) none (some (.t 19)) none⟩,
 ⟨(some 21), none, .mv (.t 1)⟩,
 ⟨(some 22), none, .appz 1 8 [(.int .i64 0)] (.t 20) (.t 21)⟩,
 ⟨(some 23), none, .mv (.t 0)⟩,
 ⟨(some 24), none, .len 0 (.t 23)⟩,
 ⟨(some 25), none, .slc 1 (.t 22) none (some (.t 24)) none⟩,
 ⟨(some 0), none, .mv (.t 25)⟩])
def c177_5 : AC := a177_5
theorem e177_5 : WC C call L c177_5 F S Q = WC C call L a177_5 F S Q := id rfl
def a177_4 : AC := (.cond (.t 16) c177_5 .skip)
def c177_4 : AC := a177_4
theorem e177_4 : WC C call L c177_4 F S Q = WC C call L a177_4 F S Q := id rfl
def a177_3 : AC := (.reg [⟨(some 15), none, .mv (.t 1)⟩,
 ⟨(some 16), none, .bin .gtr (.t 15) (.c (.int .i64 0))⟩])
def c177_3 : AC := .seq a177_3 c177_4
theorem e177_3 : WC C call L c177_3 F S Q = WC C call L a177_3 F S (thenK (fun F S => WC C call L c177_4 F S Q) Q) := id rfl
def a177_2 : AC := (.seq (.reg [⟨(some 8), none, .mv (.t 1)⟩,
 ⟨(some 9), none, .mv (.t 0)⟩,
 ⟨(some 10), none, .cap (.t 9)⟩,
 ⟨(some 11), none, .mv (.t 0)⟩,
 ⟨(some 12), none, .len 0 (.t 11)⟩,
 ⟨(some 13), none, .bin .sub (.t 10) (.t 12)⟩,
 ⟨(some 14), none, .bin .sub (.t 8) (.t 13)⟩,
 ⟨(some 1), none, .mv (.t 14)⟩]) c177_3)
def c177_2 : AC := .seq a177_2 (.seq (.reg [⟨(some 26), none, .mv (.t 0)⟩,
 ⟨(some 4), none, .mv (.t 26)⟩]) .ret)
theorem e177_2 : WC C call L c177_2 F S Q = WC C call L a177_2 F S (thenK (fun F S => WC C call L (.seq (.reg [⟨(some 26), none, .mv (.t 0)⟩,
 ⟨(some 4), none, .mv (.t 26)⟩]) .ret) F S Q) Q) := id rfl
def a177_1 : AC := (.seq (.reg [⟨(some 5), none, .mv (.t 1)⟩,
 ⟨(some 6), none, .bin .lss (.t 5) (.c (.int .i64 0))⟩]) (.cond (.t 6) (.reg [⟨(some 7), none, .mkif 9 (.c (.str [99, 97, 110, 110, 111, 116, 32, 98, 101, 32, 110, 101, 103, 97, 116, 105, 118, 101]))⟩,
 ⟨none, none, .pnc (.t 7)⟩]) .skip))
def c177_1 : AC := .seq a177_1 c177_2
theorem e177_1 : WC C call L c177_1 F S Q = WC C call L a177_1 F S (thenK (fun F S => WC C call L c177_2 F S Q) Q) := id rfl
def a177 : AC := (.reg [⟨(some 4), none, .mv (.c .nils)⟩])
def c177 : AC := .seq a177 c177_1
theorem e177 : WC C call L c177 F S Q = WC C call L a177 F S (thenK (fun F S => WC C call L c177_1 F S Q) Q) := id rfl
theorem fn177 : (ctxE Try.prog kpN env).fn 177 = some ⟨27, [.tmp 4], c177, .plain⟩ := by kernel_rfl
def a180_6 : AC := (.reg [⟨(some 11), none, .mv (.t 1)⟩,
 ⟨(some 12), none, .mv (.t 0)⟩,
 ⟨(some 13), none, .mv (.t 5)⟩,
 ⟨(some 14), none, .ixs 1 (.t 12) (.t 13)⟩,
 ⟨(some 15), none, .ld1 (.t 14)⟩,
 ⟨(some 16), none, .callv (.t 11) [(.t 15)]⟩])
def c180_6 : AC := .seq a180_6 (.cond (.t 16) (.seq (.reg [⟨(some 17), none, .mv (.t 5)⟩,
 ⟨(some 4), none, .mv (.t 17)⟩]) .ret) .skip)
theorem e180_6 : WC C call L c180_6 F S Q = WC C call L a180_6 F S (thenK (fun F S => WC C call L (.cond (.t 16) (.seq (.reg [⟨(some 17), none, .mv (.t 5)⟩,
 ⟨(some 4), none, .mv (.t 17)⟩]) .ret) .skip) F S Q) Q) := id rfl
def a180_5 : AC := (.block 1 (.seq (.reg [⟨(some 10), none, .mv (.t 8)⟩,
 ⟨(some 5), none, .mv (.t 10)⟩]) c180_6))
def c180_5 : AC := .seq a180_5 (.reg [⟨(some 18), none, .bin .add (.t 8) (.c (.int .i64 1))⟩,
 ⟨(some 8), none, .mv (.t 18)⟩])
theorem e180_5 : WC C call L c180_5 F S Q = WC C call L a180_5 F S (thenK (fun F S => WC C call L (.reg [⟨(some 18), none, .bin .add (.t 8) (.c (.int .i64 1))⟩,
 ⟨(some 8), none, .mv (.t 18)⟩]) F S Q) Q) := id rfl
def a180_4 : AC := (.cond (.t 9) .skip (.exit 0))
def c180_4 : AC := .seq a180_4 c180_5
theorem e180_4 : WC C call L c180_4 F S Q = WC C call L a180_4 F S (thenK (fun F S => WC C call L c180_5 F S Q) Q) := id rfl
def a180_3 : AC := (.reg [⟨(some 9), none, .bin .lss (.t 8) (.t 7)⟩])
def c180_3 : AC := .seq a180_3 c180_4
theorem e180_3 : WC C call L c180_3 F S Q = WC C call L a180_3 F S (thenK (fun F S => WC C call L c180_4 F S Q) Q) := id rfl
def a180_2 : AC := (.block 0 (.loop [0, 1, 4, 5, 7, 8, 9, 16] c180_3))
def c180_2 : AC := a180_2
theorem e180_2 : WC C call L c180_2 F S Q = WC C call L a180_2 F S Q := id rfl
def a180_1 : AC := (.seq (.reg [⟨(some 6), none, .mv (.t 0)⟩,
 ⟨(some 7), none, .len 0 (.t 6)⟩,
 ⟨(some 8), none, .mv (.c (.int .i64 0))⟩]) c180_2)
def c180_1 : AC := .seq a180_1 (.seq (.reg [⟨(some 4), none, .mv (.c (.int .i64 (-1)))⟩]) .ret)
theorem e180_1 : WC C call L c180_1 F S Q = WC C call L a180_1 F S (thenK (fun F S => WC C call L (.seq (.reg [⟨(some 4), none, .mv (.c (.int .i64 (-1)))⟩]) .ret) F S Q) Q) := id rfl
def a180 : AC := (.reg [⟨(some 4), none, .mv (.c (.int .i64 0))⟩])
def c180 : AC := .seq a180 c180_1
theorem e180 : WC C call L c180 F S Q = WC C call L a180 F S (thenK (fun F S => WC C call L c180_1 F S Q) Q) := id rfl
theorem fn180 : (ctxE Try.prog kpN env).fn 180 = some ⟨19, [.tmp 4], c180, .plain⟩ := by kernel_rfl
def a181_1 : AC := (.draw [(⟨(some 3), none, .mv (.t 0)⟩, [], [0]),
 (⟨(some 4), none, .nck (.t 3)⟩, [0], [3]),
 (⟨(some 5), none, .fad 1 (.t 4)⟩, [1, 0], [4]),
 (⟨(some 6), none, .fad 1 (.t 5)⟩, [2, 1, 0], [5]),
 (⟨(some 7), none, .ld1 (.t 6)⟩, [3, 2, 1, 0], [6]),
 (⟨(some 8), none, .mv (.t 0)⟩, [], [0]),
 (⟨(some 9), none, .nck (.t 8)⟩, [5], [8]),
 (⟨(some 10), none, .fad 1 (.t 9)⟩, [6, 5], [9]),
 (⟨(some 11), none, .fad 0 (.t 10)⟩, [7, 6, 5], [10]),
 (⟨(some 12), none, .ld1 (.t 11)⟩, [8, 7, 6, 5], [11]),
 (⟨(some 13), none, .bin .add (.t 12) (.c (.int .i64 1))⟩, [9, 8, 7, 6, 5], [12]),
 (⟨(some 14), none, .bin .eql (.t 7) (.t 13)⟩, [4, 3, 2, 1, 0, 10, 9, 8, 7, 6, 5], [7, 13]),
 (⟨(some 2), none, .mv (.t 14)⟩, [11, 4, 3, 2, 1, 0, 10, 9, 8, 7, 6, 5], [14])])
def c181_1 : AC := .seq a181_1 .ret
theorem e181_1 : WC C call L c181_1 F S Q = WC C call L a181_1 F S (thenK (fun F S => WC C call L .ret F S Q) Q) := id rfl
def a181 : AC := (.reg [⟨(some 2), none, .mv (.c (.bool false))⟩])
def c181 : AC := .seq a181 c181_1
theorem e181 : WC C call L c181 F S Q = WC C call L a181 F S (thenK (fun F S => WC C call L c181_1 F S Q) Q) := id rfl
theorem fn181 : (ctxE Try.prog kpN env).fn 181 = some ⟨15, [.tmp 2], c181, .plain⟩ := by kernel_rfl
def a174_5 : AC := (.cond (.t 18) (.reg [⟨(some 19), none, .mv (.t 0)⟩,
 ⟨(some 20), none, .mv (.t 5)⟩,
 ⟨(some 21), none, .nck (.t 19)⟩,
 ⟨(some 22), none, .fad 1 (.t 21)⟩,
 ⟨(some 23), none, .fad 1 (.t 22)⟩,
 ⟨none, none, .st 1 (.t 23) (.t 20)⟩]) (.reg [⟨(some 24), none, .mv (.t 0)⟩,
 ⟨(some 25), none, .mv (.t 5)⟩,
 ⟨(some 26), none, .nck (.t 24)⟩,
 ⟨(some 27), none, .fad 1 (.t 26)⟩,
 ⟨(some 28), none, .fad 0 (.t 27)⟩,
 ⟨none, none, .st 1 (.t 28) (.t 25)⟩]))
def c174_5 : AC := a174_5
theorem e174_5 : WC C call L c174_5 F S Q = WC C call L a174_5 F S Q := id rfl
def a174_8 : AC := (.cond (.t 38) (.reg [⟨(some 39), none, .mv (.t 0)⟩,
 ⟨(some 40), none, .nck (.t 39)⟩,
 ⟨(some 41), none, .fad 0 (.t 40)⟩,
 ⟨(some 42), none, .ld1 (.t 41)⟩,
 ⟨(some 43), none, .mv (.t 1)⟩,
 ⟨(some 44), none, .inv "tutor/point.told" (.t 42) [(.t 43)]⟩]) .skip)
def c174_8 : AC := a174_8
theorem e174_8 : WC C call L c174_8 F S Q = WC C call L a174_8 F S Q := id rfl
def a174_7 : AC := (.reg [⟨(some 37), none, .mv (.t 8)⟩,
 ⟨(some 38), none, .un .not (.t 37)⟩])
def c174_7 : AC := .seq a174_7 c174_8
theorem e174_7 : WC C call L c174_7 F S Q = WC C call L a174_7 F S (thenK (fun F S => WC C call L c174_8 F S Q) Q) := id rfl
def a174_9 : AC := (.reg [⟨(some 45), none, .mv (.t 0)⟩,
 ⟨(some 46), none, .nck (.t 45)⟩,
 ⟨(some 47), none, .fad 3 (.t 46)⟩,
 ⟨(some 48), none, .ld1 (.t 47)⟩,
 ⟨(some 49), none, .bin .add (.t 48) (.c (.int .i64 1))⟩,
 ⟨(some 50), none, .nck (.t 45)⟩,
 ⟨(some 51), none, .fad 3 (.t 50)⟩,
 ⟨none, none, .st 1 (.t 51) (.t 49)⟩])
def c174_9 : AC := .seq a174_9 (.seq (.reg [⟨(some 4), none, .mv (.c (.int .i64 0))⟩]) .ret)
theorem e174_9 : WC C call L c174_9 F S Q = WC C call L a174_9 F S (thenK (fun F S => WC C call L (.seq (.reg [⟨(some 4), none, .mv (.c (.int .i64 0))⟩]) .ret) F S Q) Q) := id rfl
def a174_6 : AC := (.seq (.reg [⟨(some 30), none, .mv (.t 0)⟩,
 ⟨(some 31), none, .nck (.t 30)⟩,
 ⟨(some 32), none, .fad 0 (.t 31)⟩,
 ⟨(some 33), none, .ld1 (.t 32)⟩,
 ⟨(some 34), none, .tas 249 (.agg []) true (.t 33)⟩,
 ⟨(some 29), none, .mv (.t 34)⟩,
 ⟨(some 35), none, .xt 0 (.t 29)⟩,
 ⟨(some 36), none, .xt 1 (.t 29)⟩,
 ⟨(some 7), none, .alloc []⟩,
 ⟨none, none, .st 0 (.t 7) (.t 35)⟩,
 ⟨(some 8), none, .mv (.t 36)⟩]) c174_7)
def c174_6 : AC := .seq a174_6 c174_9
theorem e174_6 : WC C call L c174_6 F S Q = WC C call L a174_6 F S (thenK (fun F S => WC C call L c174_9 F S Q) Q) := id rfl
def a174_4 : AC := (.seq (.reg [⟨(some 18), none, .mv (.t 1)⟩]) c174_5)
def c174_4 : AC := .seq a174_4 c174_6
theorem e174_4 : WC C call L c174_4 F S Q = WC C call L a174_4 F S (thenK (fun F S => WC C call L c174_6 F S Q) Q) := id rfl
def a174_3 : AC := (.seq (.reg [⟨(some 16), none, .mv (.t 6)⟩,
 ⟨(some 17), none, .un .not (.t 16)⟩]) (.cond (.t 17) (.seq (.reg [⟨(some 4), none, .mv (.c (.int .i64 7))⟩]) .ret) .skip))
def c174_3 : AC := .seq a174_3 c174_4
theorem e174_3 : WC C call L c174_3 F S Q = WC C call L a174_3 F S (thenK (fun F S => WC C call L c174_4 F S Q) Q) := id rfl
def a174_2 : AC := (.reg [⟨(some 12), none, .mv (.t 0)⟩,
 ⟨(some 13), none, .call 175 [(.t 12)]⟩,
 ⟨(some 11), none, .mv (.t 13)⟩,
 ⟨(some 14), none, .xt 0 (.t 11)⟩,
 ⟨(some 15), none, .xt 1 (.t 11)⟩,
 ⟨(some 5), none, .mv (.t 14)⟩,
 ⟨(some 6), none, .mv (.t 15)⟩])
def c174_2 : AC := .seq a174_2 c174_3
theorem e174_2 : WC C call L c174_2 F S Q = WC C call L a174_2 F S (thenK (fun F S => WC C call L c174_3 F S Q) Q) := id rfl
def a174_1 : AC := (.seq (.reg [⟨(some 9), none, .mv (.t 0)⟩,
 ⟨(some 10), none, .eq false .ptr (.t 9) (.c .nilp)⟩]) (.cond (.t 10) (.seq (.reg [⟨(some 4), none, .mv (.c (.int .i64 5))⟩]) .ret) .skip))
def c174_1 : AC := .seq a174_1 c174_2
theorem e174_1 : WC C call L c174_1 F S Q = WC C call L a174_1 F S (thenK (fun F S => WC C call L c174_2 F S Q) Q) := id rfl
def a174 : AC := (.reg [⟨(some 4), none, .mv (.c (.int .i64 0))⟩])
def c174 : AC := .seq a174 c174_1
theorem e174 : WC C call L c174 F S Q = WC C call L a174 F S (thenK (fun F S => WC C call L c174_1 F S Q) Q) := id rfl
theorem fn174 : (ctxE Try.prog kpN env).fn 174 = some ⟨52, [.tmp 4], c174, .plain⟩ := by kernel_rfl
def a175_2 : AC := (.draw [(⟨(some 10), none, .mv (.t 0)⟩, [], [0]),
 (⟨(some 11), none, .nck (.t 10)⟩, [0], [10]),
 (⟨(some 12), none, .fad 0 (.t 11)⟩, [1, 0], [11]),
 (⟨(some 13), none, .ld1 (.t 12)⟩, [2, 1, 0], [12]),
 (⟨(some 14), none, .mv (.t 0)⟩, [], [0]),
 (⟨(some 15), none, .nck (.t 14)⟩, [4], [14]),
 (⟨(some 16), none, .fad 1 (.t 15)⟩, [5, 4], [15]),
 (⟨(some 17), none, .ldn 2 (.t 16)⟩, [6, 5, 4], [16]),
 (⟨(some 18), none, .nck (.t 13)⟩, [3, 2, 1, 0], [13]),
 (⟨(some 19), none, .mv (.t 13)⟩, [8, 3, 2, 1, 0], [13]),
 (⟨(some 20), none, .inv "tutor/point.next" (.t 19) [(.t 17)]⟩, [9, 8, 3, 2, 1, 0, 7, 6, 5, 4], [19, 17]),
 (⟨(some 2), none, .mv (.t 20)⟩, [10, 9, 8, 3, 2, 1, 0, 7, 6, 5, 4], [20]),
 (⟨(some 3), none, .mv (.c (.bool true))⟩, [11, 10, 9, 8, 3, 2, 1, 0, 7, 6, 5, 4], [])])
def c175_2 : AC := .seq a175_2 .ret
theorem e175_2 : WC C call L c175_2 F S Q = WC C call L a175_2 F S (thenK (fun F S => WC C call L .ret F S Q) Q) := id rfl
def a175_1 : AC := (.seq (.reg [⟨(some 4), none, .mv (.t 0)⟩,
 ⟨(some 5), none, .eq false .ptr (.t 4) (.c .nilp)⟩,
 ⟨(some 6), none, .mv (.t 5)⟩,
 ⟨(some 7), (some (6, false)), .mv (.t 0)⟩,
 ⟨(some 8), (some (6, false)), .call 181 [(.t 7)]⟩,
 ⟨(some 9), none, .pick (.t 6) (.c (.bool true)) (.t 8)⟩]) (.cond (.t 9) (.seq (.reg [⟨(some 2), none, .mv (.c (.int .i64 0))⟩,
 ⟨(some 3), none, .mv (.c (.bool false))⟩]) .ret) .skip))
def c175_1 : AC := .seq a175_1 c175_2
theorem e175_1 : WC C call L c175_1 F S Q = WC C call L a175_1 F S (thenK (fun F S => WC C call L c175_2 F S Q) Q) := id rfl
def a175 : AC := (.reg [⟨(some 2), none, .mv (.c (.int .i64 0))⟩,
 ⟨(some 3), none, .mv (.c (.bool false))⟩])
def c175 : AC := .seq a175 c175_1
theorem e175 : WC C call L c175 F S Q = WC C call L a175 F S (thenK (fun F S => WC C call L c175_1 F S Q) Q) := id rfl
theorem fn175 : (ctxE Try.prog kpN env).fn 175 = some ⟨21, [.tmp 2, .tmp 3], c175, .plain⟩ := by kernel_rfl
def a176_2 : AC := (.reg [⟨(some 11), none, .mv (.t 0)⟩,
 ⟨(some 12), none, .nck (.t 11)⟩,
 ⟨(some 13), none, .fad 1 (.t 12)⟩,
 ⟨(some 14), none, .fad 0 (.t 13)⟩,
 ⟨(some 15), none, .ld1 (.t 14)⟩,
 ⟨(some 2), none, .mv (.t 15)⟩,
 ⟨(some 3), none, .mv (.c (.bool true))⟩])
def c176_2 : AC := .seq a176_2 .ret
theorem e176_2 : WC C call L c176_2 F S Q = WC C call L a176_2 F S (thenK (fun F S => WC C call L .ret F S Q) Q) := id rfl
def a176_1 : AC := (.seq (.reg [⟨(some 4), none, .mv (.t 0)⟩,
 ⟨(some 5), none, .eq false .ptr (.t 4) (.c .nilp)⟩,
 ⟨(some 6), none, .mv (.t 5)⟩,
 ⟨(some 7), (some (6, false)), .mv (.t 0)⟩,
 ⟨(some 8), (some (6, false)), .call 181 [(.t 7)]⟩,
 ⟨(some 9), (some (6, false)), .un .not (.t 8)⟩,
 ⟨(some 10), none, .pick (.t 6) (.c (.bool true)) (.t 9)⟩]) (.cond (.t 10) (.seq (.reg [⟨(some 2), none, .mv (.c (.int .i64 0))⟩,
 ⟨(some 3), none, .mv (.c (.bool false))⟩]) .ret) .skip))
def c176_1 : AC := .seq a176_1 c176_2
theorem e176_1 : WC C call L c176_1 F S Q = WC C call L a176_1 F S (thenK (fun F S => WC C call L c176_2 F S Q) Q) := id rfl
def a176 : AC := (.reg [⟨(some 2), none, .mv (.c (.int .i64 0))⟩,
 ⟨(some 3), none, .mv (.c (.bool false))⟩])
def c176 : AC := .seq a176 c176_1
theorem e176 : WC C call L c176 F S Q = WC C call L a176 F S (thenK (fun F S => WC C call L c176_1 F S Q) Q) := id rfl
theorem fn176 : (ctxE Try.prog kpN env).fn 176 = some ⟨16, [.tmp 2, .tmp 3], c176, .plain⟩ := by kernel_rfl
def a153_7 : AC := (.cond (.t 16) (.reg [⟨(some 18), none, .build [(.int .i64 0), (.bool false)] [(0, 1, (.c (.int .i64 1)))]⟩,
 ⟨(some 19), none, .box (.t 18)⟩,
 ⟨(some 20), none, .mkif 251 (.t 19)⟩,
 ⟨(some 6), none, .mv (.t 20)⟩]) .skip)
def c153_7 : AC := a153_7
theorem e153_7 : WC C call L c153_7 F S Q = WC C call L a153_7 F S Q := id rfl
def a153_6 : AC := (.cond (.t 12) (.reg [⟨(some 14), none, .build [] []⟩,
 ⟨(some 15), none, .mkif 250 (.t 14)⟩,
 ⟨(some 6), none, .mv (.t 15)⟩]) (.seq (.reg [⟨(some 17), none, .bin .eql (.t 7) (.c (.int .i64 3))⟩,
 ⟨(some 16), none, .mv (.t 17)⟩]) c153_7))
def c153_6 : AC := a153_6
theorem e153_6 : WC C call L c153_6 F S Q = WC C call L a153_6 F S Q := id rfl
def a153_5 : AC := (.reg [⟨(some 13), none, .bin .eql (.t 7) (.c (.int .i64 2))⟩,
 ⟨(some 12), none, .mv (.t 13)⟩])
def c153_5 : AC := .seq a153_5 c153_6
theorem e153_5 : WC C call L c153_5 F S Q = WC C call L a153_5 F S (thenK (fun F S => WC C call L c153_6 F S Q) Q) := id rfl
def a153_4 : AC := (.cond (.t 8) (.reg [⟨(some 10), none, .build [] []⟩,
 ⟨(some 11), none, .mkif 249 (.t 10)⟩,
 ⟨(some 6), none, .mv (.t 11)⟩]) c153_5)
def c153_4 : AC := a153_4
theorem e153_4 : WC C call L c153_4 F S Q = WC C call L a153_4 F S Q := id rfl
def a153_3 : AC := (.block 0 (.seq (.reg [⟨(some 9), none, .bin .eql (.t 7) (.c (.int .i64 1))⟩,
 ⟨(some 8), none, .mv (.t 9)⟩]) c153_4))
def c153_3 : AC := a153_3
theorem e153_3 : WC C call L c153_3 F S Q = WC C call L a153_3 F S Q := id rfl
def a153_9 : AC := (.cond (.t 21) (.seq (.reg [⟨(some 4), none, .mv (.c .nilp)⟩,
 ⟨(some 5), none, .mv (.c (.int .i64 1))⟩]) .ret) (.seq (.reg [⟨(some 29), none, .mv (.t 1)⟩,
 ⟨(some 30), none, .bin .gtr (.t 29) (.c (.int .i64 4096))⟩,
 ⟨(some 28), none, .mv (.t 30)⟩]) (.cond (.t 28) (.seq (.reg [⟨(some 4), none, .mv (.c .nilp)⟩,
 ⟨(some 5), none, .mv (.c (.int .i64 3))⟩]) .ret) .skip)))
def c153_9 : AC := a153_9
theorem e153_9 : WC C call L c153_9 F S Q = WC C call L a153_9 F S Q := id rfl
def a153_10 : AC := (.reg [⟨(some 31), none, .mv (.t 6)⟩,
 ⟨(some 32), none, .mv (.t 1)⟩,
 ⟨(some 33), none, .build [(.int .i64 0), (.int .i64 0)] [(0, 1, (.c (.int .i64 0))), (1, 1, (.t 32))]⟩,
 ⟨(some 34), none, .build [.nili, (.int .i64 0), (.int .i64 0), (.int .i64 0)] [(0, 1, (.t 31)), (1, 2, (.t 33))]⟩,
 ⟨(some 35), none, .box (.t 34)⟩,
 ⟨(some 4), none, .mv (.t 35)⟩,
 ⟨(some 5), none, .mv (.c (.int .i64 0))⟩])
def c153_10 : AC := .seq a153_10 .ret
theorem e153_10 : WC C call L c153_10 F S Q = WC C call L a153_10 F S (thenK (fun F S => WC C call L .ret F S Q) Q) := id rfl
def a153_8 : AC := (.block 1 (.seq (.reg [⟨(some 22), none, .mv (.t 6)⟩,
 ⟨(some 23), none, .eq false (.ifc true) (.t 22) (.c .nili)⟩,
 ⟨(some 24), none, .mv (.t 23)⟩,
 ⟨(some 25), (some (24, false)), .mv (.t 1)⟩,
 ⟨(some 26), (some (24, false)), .bin .lss (.t 25) (.c (.int .i64 1))⟩,
 ⟨(some 27), none, .pick (.t 24) (.c (.bool true)) (.t 26)⟩,
 ⟨(some 21), none, .mv (.t 27)⟩]) c153_9))
def c153_8 : AC := .seq a153_8 c153_10
theorem e153_8 : WC C call L c153_8 F S Q = WC C call L a153_8 F S (thenK (fun F S => WC C call L c153_10 F S Q) Q) := id rfl
def a153_2 : AC := (.seq (.reg [⟨(some 7), none, .mv (.t 0)⟩]) c153_3)
def c153_2 : AC := .seq a153_2 c153_8
theorem e153_2 : WC C call L c153_2 F S Q = WC C call L a153_2 F S (thenK (fun F S => WC C call L c153_8 F S Q) Q) := id rfl
def a153_1 : AC := (.reg [⟨(some 6), none, .mv (.c .nili)⟩])
def c153_1 : AC := .seq a153_1 c153_2
theorem e153_1 : WC C call L c153_1 F S Q = WC C call L a153_1 F S (thenK (fun F S => WC C call L c153_2 F S Q) Q) := id rfl
def a153 : AC := (.reg [⟨(some 4), none, .mv (.c .nilp)⟩,
 ⟨(some 5), none, .mv (.c (.int .i64 0))⟩])
def c153 : AC := .seq a153 c153_1
theorem e153 : WC C call L c153 F S Q = WC C call L a153 F S (thenK (fun F S => WC C call L c153_1 F S Q) Q) := id rfl
theorem fn153 : (ctxE Try.prog kpN env).fn 153 = some ⟨36, [.tmp 4, .tmp 5], c153, .plain⟩ := by kernel_rfl
def a208 : AC := (.reg [⟨(some 2), none, .box (.t 0)⟩,
 ⟨(some 3), none, .box (.t 1)⟩,
 ⟨(some 4), none, .mv (.c (.int .i64 0))⟩])
def c208 : AC := .seq a208 (.seq (.reg [⟨(some 5), none, .fad 0 (.t 3)⟩,
 ⟨(some 6), none, .ld1 (.t 5)⟩,
 ⟨(some 7), none, .bin .add (.t 6) (.c (.int .i64 1))⟩,
 ⟨(some 4), none, .mv (.t 7)⟩]) .ret)
theorem e208 : WC C call L c208 F S Q = WC C call L a208 F S (thenK (fun F S => WC C call L (.seq (.reg [⟨(some 5), none, .fad 0 (.t 3)⟩,
 ⟨(some 6), none, .ld1 (.t 5)⟩,
 ⟨(some 7), none, .bin .add (.t 6) (.c (.int .i64 1))⟩,
 ⟨(some 4), none, .mv (.t 7)⟩]) .ret) F S Q) Q) := id rfl
theorem fn208 : (ctxE Try.prog kpN env).fn 208 = some ⟨8, [.tmp 4], c208, .plain⟩ := by kernel_rfl
def a210_1 : AC := (.reg [⟨(some 5), none, .fad 0 (.t 3)⟩,
 ⟨(some 6), none, .ld1 (.t 5)⟩,
 ⟨(some 7), none, .fad 1 (.t 3)⟩,
 ⟨(some 8), none, .ld1 (.t 7)⟩,
 ⟨(some 9), none, .fad 0 (.t 3)⟩,
 ⟨(some 10), none, .ld1 (.t 9)⟩,
 ⟨(some 11), none, .bin .sub (.t 8) (.t 10)⟩,
 ⟨(some 12), none, .bin .quo (.t 11) (.c (.int .i64 2))⟩,
 ⟨(some 13), none, .bin .add (.t 6) (.t 12)⟩,
 ⟨(some 4), none, .mv (.t 13)⟩])
def c210_1 : AC := .seq a210_1 .ret
theorem e210_1 : WC C call L c210_1 F S Q = WC C call L a210_1 F S (thenK (fun F S => WC C call L .ret F S Q) Q) := id rfl
def a210 : AC := (.reg [⟨(some 2), none, .box (.t 0)⟩,
 ⟨(some 3), none, .box (.t 1)⟩,
 ⟨(some 4), none, .mv (.c (.int .i64 0))⟩])
def c210 : AC := .seq a210 c210_1
theorem e210 : WC C call L c210 F S Q = WC C call L a210 F S (thenK (fun F S => WC C call L c210_1 F S Q) Q) := id rfl
theorem fn210 : (ctxE Try.prog kpN env).fn 210 = some ⟨14, [.tmp 4], c210, .plain⟩ := by kernel_rfl
def a211 : AC := (.reg [⟨(some 2), none, .box (.t 0)⟩])
def c211 : AC := a211
theorem e211 : WC C call L c211 F S Q = WC C call L a211 F S Q := id rfl
theorem fn211 : (ctxE Try.prog kpN env).fn 211 = some ⟨4, [], c211, .plain⟩ := by kernel_rfl
def a212_2 : AC := (.cond (.t 8) (.seq (.reg [⟨(some 9), none, .build [] []⟩,
 ⟨(some 10), none, .ldn 2 (.t 3)⟩,
 ⟨(some 11), none, .call 210 [(.t 9), (.t 10)]⟩,
 ⟨(some 4), none, .mv (.t 11)⟩]) .ret) .skip)
def c212_2 : AC := a212_2
theorem e212_2 : WC C call L c212_2 F S Q = WC C call L a212_2 F S Q := id rfl
def a212_3 : AC := (.draw [(⟨(some 12), none, .fad 1 (.t 3)⟩, [], [3]),
 (⟨(some 13), none, .ld1 (.t 12)⟩, [0], [12]),
 (⟨(some 14), none, .mv (.t 0)⟩, [], [0]),
 (⟨(some 15), none, .nck (.t 14)⟩, [2], [14]),
 (⟨(some 16), none, .fad 0 (.t 15)⟩, [3, 2], [15]),
 (⟨(some 17), none, .ld1 (.t 16)⟩, [4, 3, 2], [16]),
 (⟨(some 18), none, .bin .sub (.t 13) (.t 17)⟩, [1, 0, 5, 4, 3, 2], [13, 17]),
 (⟨(some 19), none, .fad 0 (.t 3)⟩, [], [3]),
 (⟨(some 20), none, .ld1 (.t 19)⟩, [7], [19]),
 (⟨(some 21), none, .bin .add (.t 20) (.c (.int .i64 1))⟩, [8, 7], [20]),
 (⟨(some 22), none, .mx (.t 18) [(.t 21)]⟩, [6, 1, 0, 5, 4, 3, 2, 9, 8, 7], [18, 21]),
 (⟨(some 4), none, .mv (.t 22)⟩, [10, 6, 1, 0, 5, 4, 3, 2, 9, 8, 7], [22])])
def c212_3 : AC := .seq a212_3 .ret
theorem e212_3 : WC C call L c212_3 F S Q = WC C call L a212_3 F S (thenK (fun F S => WC C call L .ret F S Q) Q) := id rfl
def a212_1 : AC := (.seq (.reg [⟨(some 5), none, .mv (.t 0)⟩,
 ⟨(some 6), none, .nck (.t 5)⟩,
 ⟨(some 7), none, .fad 1 (.t 6)⟩,
 ⟨(some 8), none, .ld1 (.t 7)⟩]) c212_2)
def c212_1 : AC := .seq a212_1 c212_3
theorem e212_1 : WC C call L c212_1 F S Q = WC C call L a212_1 F S (thenK (fun F S => WC C call L c212_3 F S Q) Q) := id rfl
def a212 : AC := (.reg [⟨(some 3), none, .box (.t 1)⟩,
 ⟨(some 4), none, .mv (.c (.int .i64 0))⟩])
def c212 : AC := .seq a212 c212_1
theorem e212 : WC C call L c212 F S Q = WC C call L a212 F S (thenK (fun F S => WC C call L c212_1 F S Q) Q) := id rfl
theorem fn212 : (ctxE Try.prog kpN env).fn 212 = some ⟨23, [.tmp 4], c212, .plain⟩ := by kernel_rfl
def a213_1 : AC := (.reg [⟨(some 11), none, .mv (.t 0)⟩,
 ⟨(some 12), none, .mv (.t 0)⟩,
 ⟨(some 13), none, .nck (.t 12)⟩,
 ⟨(some 14), none, .fad 1 (.t 13)⟩,
 ⟨(some 15), none, .ld1 (.t 14)⟩,
 ⟨(some 16), none, .mv (.t 15)⟩,
 ⟨(some 17), (some (16, false)), .mv (.t 1)⟩,
 ⟨(some 18), (some (16, false)), .un .not (.t 17)⟩,
 ⟨(some 19), none, .pick (.t 16) (.c (.bool true)) (.t 18)⟩,
 ⟨(some 20), none, .nck (.t 11)⟩,
 ⟨(some 21), none, .fad 1 (.t 20)⟩,
 ⟨none, none, .st 1 (.t 21) (.t 19)⟩])
def c213_1 : AC := a213_1
theorem e213_1 : WC C call L c213_1 F S Q = WC C call L a213_1 F S Q := id rfl
def a213 : AC := (.reg [⟨(some 4), none, .mv (.t 0)⟩,
 ⟨(some 5), none, .nck (.t 4)⟩,
 ⟨(some 6), none, .fad 0 (.t 5)⟩,
 ⟨(some 7), none, .ld1 (.t 6)⟩,
 ⟨(some 8), none, .bin .mul (.t 7) (.c (.int .i64 2))⟩,
 ⟨(some 9), none, .nck (.t 4)⟩,
 ⟨(some 10), none, .fad 0 (.t 9)⟩,
 ⟨none, none, .st 1 (.t 10) (.t 8)⟩])
def c213 : AC := .seq a213 c213_1
theorem e213 : WC C call L c213 F S Q = WC C call L a213 F S (thenK (fun F S => WC C call L c213_1 F S Q) Q) := id rfl
theorem fn213 : (ctxE Try.prog kpN env).fn 213 = some ⟨22, [], c213, .plain⟩ := by kernel_rfl
end Go.Proofs.Ytednmmcdjhfflaa.Vai
