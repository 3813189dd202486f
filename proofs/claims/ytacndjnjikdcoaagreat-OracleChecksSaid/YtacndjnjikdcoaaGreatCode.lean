/-
  The functions' intermediate code. Printed by ppcode.lean out of the translation.
-/
import Derived.Test.YtacndjnjikdcoaaGreatVaiW
import Derived.Test.YtacndjnjikdcoaaGreatProg
import Derived.KernelRfl
namespace Go.Proofs.YtacndjnjikdcoaaGreat.Vai
open Go

/-- the slots that are kept at loops' heads -/
def kpN : Nat → List Nat
  | 20 => [0, 1, 4, 5, 10, 12, 13, 14, 24]
  | _ => []
variable {env : Env}

/-- tutor/tutorlaw26.OracleChecks -/
def c3 : AC :=
  (.seq (.reg [⟨(some 1), none, .box (.t 0)⟩,
   ⟨(some 2), none, .mv (.c (.bool false))⟩])
  (.seq (.draw [(⟨(some 3), none, .ldn 6 (.t 1)⟩, [], [1]),
   (⟨(some 4), none, .call 6 [(.t 3)]⟩, [0], [3]),
   (⟨(some 5), none, .call 5 [(.t 4)]⟩, [1, 0], [4]),
   (⟨(some 6), none, .ldn 6 (.t 1)⟩, [], [1]),
   (⟨(some 7), none, .call 7 [(.t 6)]⟩, [3, 2, 1, 0], [6]),
   (⟨(some 8), none, .bin .eql (.t 5) (.t 7)⟩, [4, 3, 2, 1, 0], [5, 7]),
   (⟨(some 9), none, .mv (.t 8)⟩, [5, 4, 3, 2, 1, 0], [8]),
   (⟨(some 10), (some (9, true)), .call 8 []⟩, [6, 5, 4, 3, 2, 1, 0], [9]),
   (⟨(some 11), none, .pick (.t 9) (.t 10) (.c (.bool false))⟩, [7, 6, 5, 4, 3, 2, 1, 0], [9, 10]),
   (⟨(some 2), none, .mv (.t 11)⟩, [8, 7, 6, 5, 4, 3, 2, 1, 0], [11])])
  .ret))
theorem fn3 : (ctxE Tryz.prog kpN env).fn 3 = some ⟨12, [.tmp 2], c3, .plain⟩ := by kernel_rfl

/-- tutor/tutorlaw26.num -/
def c5 : AC :=
  (.seq (.reg [⟨(some 2), none, .mv (.c (.int .i64 0))⟩])
  (.seq (.reg [⟨(some 3), none, .mv (.t 0)⟩,
   ⟨(some 2), none, .mv (.t 3)⟩])
  .ret))
theorem fn5 : (ctxE Tryz.prog kpN env).fn 5 = some ⟨4, [.tmp 2], c5, .plain⟩ := by kernel_rfl

/-- tutor/oracle.Check -/
def c6 : AC :=
  (.seq (.reg [⟨(some 1), none, .box (.t 0)⟩,
   ⟨(some 2), none, .mv (.c (.int .i64 0))⟩])
  (.seq (.block 0 (.seq (.reg [⟨(some 4), none, .fad 0 (.t 1)⟩,
   ⟨(some 5), none, .ld1 (.t 4)⟩,
   ⟨(some 6), none, .bin .lss (.t 5) (.c (.int .i64 1))⟩,
   ⟨(some 7), none, .mv (.t 6)⟩,
   ⟨(some 8), (some (7, false)), .fad 0 (.t 1)⟩,
   ⟨(some 9), (some (7, false)), .ld1 (.t 8)⟩,
   ⟨(some 10), (some (7, false)), .bin .gtr (.t 9) (.c (.int .i64 5))⟩,
   ⟨(some 11), none, .pick (.t 7) (.c (.bool true)) (.t 10)⟩,
   ⟨(some 3), none, .mv (.t 11)⟩])
  (.cond (.t 3)
   (.seq (.reg [⟨(some 2), none, .mv (.c (.int .i64 30))⟩])
   .ret)
   (.seq (.reg [⟨(some 13), none, .fad 0 (.t 1)⟩,
    ⟨(some 14), none, .ld1 (.t 13)⟩,
    ⟨(some 15), none, .bin .eql (.t 14) (.c (.int .i64 1))⟩,
    ⟨(some 12), none, .mv (.t 15)⟩])
   (.cond (.t 12)
    (.seq (.reg [⟨(some 2), none, .mv (.c (.int .i64 0))⟩])
    .ret)
    (.seq (.reg [⟨(some 17), none, .fad 0 (.t 1)⟩,
     ⟨(some 18), none, .ld1 (.t 17)⟩,
     ⟨(some 19), none, .bin .lss (.t 18) (.c (.int .i64 5))⟩,
     ⟨(some 16), none, .mv (.t 19)⟩])
    (.cond (.t 16)
     (.seq (.seq (.reg [⟨(some 20), none, .fad 1 (.t 1)⟩,
      ⟨(some 21), none, .ld1 (.t 20)⟩,
      ⟨(some 22), none, .bin .lss (.t 21) (.c (.int .i64 0))⟩,
      ⟨(some 23), none, .mv (.t 22)⟩,
      ⟨(some 24), (some (23, false)), .fad 1 (.t 1)⟩,
      ⟨(some 25), (some (23, false)), .ld1 (.t 24)⟩,
      ⟨(some 26), (some (23, false)), .bin .gtr (.t 25) (.c (.int .i64 8))⟩,
      ⟨(some 27), none, .pick (.t 23) (.c (.bool true)) (.t 26)⟩])
     (.cond (.t 27)
      (.seq (.reg [⟨(some 2), none, .mv (.c (.int .i64 1))⟩])
      .ret)
      .skip))
     (.seq (.reg [⟨(some 2), none, .mv (.c (.int .i64 0))⟩])
     .ret))
     (.seq (.reg [⟨(some 29), none, .fad 3 (.t 1)⟩,
      ⟨(some 30), none, .ld1 (.t 29)⟩,
      ⟨(some 31), none, .bin .lss (.t 30) (.c (.int .i64 0))⟩,
      ⟨(some 32), none, .mv (.t 31)⟩,
      ⟨(some 33), (some (32, false)), .fad 4 (.t 1)⟩,
      ⟨(some 34), (some (32, false)), .ld1 (.t 33)⟩,
      ⟨(some 35), (some (32, false)), .bin .lss (.t 34) (.c (.int .i64 0))⟩,
      ⟨(some 36), none, .pick (.t 32) (.c (.bool true)) (.t 35)⟩,
      ⟨(some 37), none, .mv (.t 36)⟩,
      ⟨(some 38), (some (37, false)), .fad 5 (.t 1)⟩,
      ⟨(some 39), (some (37, false)), .ld1 (.t 38)⟩,
      ⟨(some 40), (some (37, false)), .fad 4 (.t 1)⟩,
      ⟨(some 41), (some (37, false)), .ld1 (.t 40)⟩,
      ⟨(some 42), (some (37, false)), .bin .lss (.t 39) (.t 41)⟩,
      ⟨(some 43), none, .pick (.t 37) (.c (.bool true)) (.t 42)⟩,
      ⟨(some 28), none, .mv (.t 43)⟩])
     (.cond (.t 28)
      (.seq (.reg [⟨(some 2), none, .mv (.c (.int .i64 1))⟩])
      .ret)
      (.seq (.reg [⟨(some 45), none, .fad 3 (.t 1)⟩,
       ⟨(some 46), none, .ld1 (.t 45)⟩,
       ⟨(some 47), none, .bin .gtr (.t 46) (.c (.int .i64 65536))⟩,
       ⟨(some 44), none, .mv (.t 47)⟩])
      (.cond (.t 44)
       (.seq (.reg [⟨(some 2), none, .mv (.c (.int .i64 3))⟩])
       .ret)
       (.seq (.reg [⟨(some 49), none, .fad 5 (.t 1)⟩,
        ⟨(some 50), none, .ld1 (.t 49)⟩,
        ⟨(some 51), none, .bin .gtr (.t 50) (.c (.int .i64 4096))⟩,
        ⟨(some 48), none, .mv (.t 51)⟩])
       (.cond (.t 48)
        (.seq (.reg [⟨(some 2), none, .mv (.c (.int .i64 2))⟩])
        .ret)
        .skip)))))))))))))
  (.seq (.reg [⟨(some 2), none, .mv (.c (.int .i64 0))⟩])
  .ret)))
theorem fn6 : (ctxE Tryz.prog kpN env).fn 6 = some ⟨52, [.tmp 2], c6, .plain⟩ := by kernel_rfl

/-- tutor/tutorref26.Check -/
def c7 : AC :=
  (.seq (.reg [⟨(some 1), none, .box (.t 0)⟩,
   ⟨(some 2), none, .mv (.c (.int .i64 0))⟩])
  (.seq (.seq (.reg [⟨(some 3), none, .fad 0 (.t 1)⟩,
   ⟨(some 4), none, .ld1 (.t 3)⟩,
   ⟨(some 5), none, .bin .lss (.t 4) (.c (.int .i64 1))⟩,
   ⟨(some 6), none, .mv (.t 5)⟩,
   ⟨(some 7), (some (6, false)), .fad 0 (.t 1)⟩,
   ⟨(some 8), (some (6, false)), .ld1 (.t 7)⟩,
   ⟨(some 9), (some (6, false)), .bin .gtr (.t 8) (.c (.int .i64 5))⟩,
   ⟨(some 10), none, .pick (.t 6) (.c (.bool true)) (.t 9)⟩])
  (.cond (.t 10)
   (.seq (.reg [⟨(some 2), none, .mv (.c (.int .i64 30))⟩])
   .ret)
   .skip))
  (.seq (.seq (.reg [⟨(some 11), none, .fad 0 (.t 1)⟩,
   ⟨(some 12), none, .ld1 (.t 11)⟩,
   ⟨(some 13), none, .bin .eql (.t 12) (.c (.int .i64 1))⟩])
  (.cond (.t 13)
   (.seq (.reg [⟨(some 2), none, .mv (.c (.int .i64 0))⟩])
   .ret)
   .skip))
  (.seq (.seq (.reg [⟨(some 14), none, .fad 0 (.t 1)⟩,
   ⟨(some 15), none, .ld1 (.t 14)⟩,
   ⟨(some 16), none, .bin .lss (.t 15) (.c (.int .i64 5))⟩])
  (.cond (.t 16)
   (.seq (.seq (.reg [⟨(some 17), none, .fad 1 (.t 1)⟩,
    ⟨(some 18), none, .ld1 (.t 17)⟩,
    ⟨(some 19), none, .bin .lss (.t 18) (.c (.int .i64 0))⟩,
    ⟨(some 20), none, .mv (.t 19)⟩,
    ⟨(some 21), (some (20, false)), .fad 1 (.t 1)⟩,
    ⟨(some 22), (some (20, false)), .ld1 (.t 21)⟩,
    ⟨(some 23), (some (20, false)), .bin .gtr (.t 22) (.c (.int .i64 8))⟩,
    ⟨(some 24), none, .pick (.t 20) (.c (.bool true)) (.t 23)⟩])
   (.cond (.t 24)
    (.seq (.reg [⟨(some 2), none, .mv (.c (.int .i64 1))⟩])
    .ret)
    .skip))
   (.seq (.reg [⟨(some 2), none, .mv (.c (.int .i64 0))⟩])
   .ret))
   .skip))
  (.seq (.seq (.reg [⟨(some 25), none, .fad 3 (.t 1)⟩,
   ⟨(some 26), none, .ld1 (.t 25)⟩,
   ⟨(some 27), none, .bin .lss (.t 26) (.c (.int .i64 0))⟩,
   ⟨(some 28), none, .mv (.t 27)⟩,
   ⟨(some 29), (some (28, false)), .fad 4 (.t 1)⟩,
   ⟨(some 30), (some (28, false)), .ld1 (.t 29)⟩,
   ⟨(some 31), (some (28, false)), .bin .lss (.t 30) (.c (.int .i64 0))⟩,
   ⟨(some 32), none, .pick (.t 28) (.c (.bool true)) (.t 31)⟩,
   ⟨(some 33), none, .mv (.t 32)⟩,
   ⟨(some 34), (some (33, false)), .fad 5 (.t 1)⟩,
   ⟨(some 35), (some (33, false)), .ld1 (.t 34)⟩,
   ⟨(some 36), (some (33, false)), .fad 4 (.t 1)⟩,
   ⟨(some 37), (some (33, false)), .ld1 (.t 36)⟩,
   ⟨(some 38), (some (33, false)), .bin .lss (.t 35) (.t 37)⟩,
   ⟨(some 39), none, .pick (.t 33) (.c (.bool true)) (.t 38)⟩])
  (.cond (.t 39)
   (.seq (.reg [⟨(some 2), none, .mv (.c (.int .i64 1))⟩])
   .ret)
   .skip))
  (.seq (.seq (.reg [⟨(some 40), none, .fad 3 (.t 1)⟩,
   ⟨(some 41), none, .ld1 (.t 40)⟩,
   ⟨(some 42), none, .bin .gtr (.t 41) (.c (.int .i64 65536))⟩])
  (.cond (.t 42)
   (.seq (.reg [⟨(some 2), none, .mv (.c (.int .i64 3))⟩])
   .ret)
   .skip))
  (.seq (.seq (.reg [⟨(some 43), none, .fad 5 (.t 1)⟩,
   ⟨(some 44), none, .ld1 (.t 43)⟩,
   ⟨(some 45), none, .bin .gtr (.t 44) (.c (.int .i64 4096))⟩])
  (.cond (.t 45)
   (.seq (.reg [⟨(some 2), none, .mv (.c (.int .i64 2))⟩])
   .ret)
   .skip))
  (.seq (.reg [⟨(some 2), none, .mv (.c (.int .i64 0))⟩])
  .ret))))))))
theorem fn7 : (ctxE Tryz.prog kpN env).fn 7 = some ⟨46, [.tmp 2], c7, .plain⟩ := by kernel_rfl

/-- slices.Equal[[]int,int] -/
def c20 : AC :=
  (.seq (.reg [⟨(some 4), none, .mv (.c (.bool false))⟩])
  (.seq (.seq (.reg [⟨(some 6), none, .mv (.t 0)⟩,
   ⟨(some 7), none, .len 0 (.t 6)⟩,
   ⟨(some 8), none, .mv (.t 1)⟩,
   ⟨(some 9), none, .len 0 (.t 8)⟩,
   ⟨(some 10), none, .bin .neq (.t 7) (.t 9)⟩])
  (.cond (.t 10)
   (.seq (.reg [⟨(some 4), none, .mv (.c (.bool false))⟩])
   .ret)
   .skip))
  (.seq (.seq (.reg [⟨(some 11), none, .mv (.t 0)⟩,
   ⟨(some 12), none, .len 0 (.t 11)⟩,
   ⟨(some 13), none, .mv (.c (.int .i64 0))⟩])
  (.block 0 (.loop [0, 1, 4, 5, 10, 12, 13, 14, 24]
   (.seq (.reg [⟨(some 14), none, .bin .lss (.t 13) (.t 12)⟩])
   (.seq (.cond (.t 14)
    .skip
    (.exit 0))
   (.seq (.block 1 (.seq (.reg [⟨(some 15), none, .mv (.t 13)⟩,
    ⟨(some 5), none, .mv (.t 15)⟩])
   (.seq (.draw [(⟨(some 16), none, .mv (.t 0)⟩, [], [0]),
    (⟨(some 17), none, .mv (.t 5)⟩, [], [5]),
    (⟨(some 18), none, .ixs 1 (.t 16) (.t 17)⟩, [0, 1], [16, 17]),
    (⟨(some 19), none, .ld1 (.t 18)⟩, [2, 0, 1], [18]),
    (⟨(some 20), none, .mv (.t 1)⟩, [], [1]),
    (⟨(some 21), none, .mv (.t 5)⟩, [], [5]),
    (⟨(some 22), none, .ixs 1 (.t 20) (.t 21)⟩, [4, 5], [20, 21]),
    (⟨(some 23), none, .ld1 (.t 22)⟩, [6, 4, 5], [22]),
    (⟨(some 24), none, .bin .neq (.t 19) (.t 23)⟩, [3, 2, 0, 1, 7, 6, 4, 5], [19, 23])])
   (.cond (.t 24)
    (.seq (.reg [⟨(some 4), none, .mv (.c (.bool false))⟩])
    .ret)
    .skip))))
   (.reg [⟨(some 25), none, .bin .add (.t 13) (.c (.int .i64 1))⟩,
    ⟨(some 13), none, .mv (.t 25)⟩])))))))
  (.seq (.reg [⟨(some 4), none, .mv (.c (.bool true))⟩])
  .ret))))
theorem fn20 : (ctxE Tryz.prog kpN env).fn 20 = some ⟨26, [.tmp 4], c20, .plain⟩ := by kernel_rfl

/-- tutor/machine.Check -/
def c21 : AC :=
  (.seq (.reg [⟨(some 1), none, .box (.t 0)⟩,
   ⟨(some 2), none, .mv (.c (.int .i64 0))⟩,
   ⟨(some 3), none, .mv (.c (.int .i64 0))⟩])
  (.seq (.seq (.reg [⟨(some 7), none, .ldn 6 (.t 1)⟩,
   ⟨(some 8), none, .call 28 [(.t 7)]⟩,
   ⟨(some 4), none, .mv (.t 8)⟩])
  (.seq (.reg [⟨(some 9), none, .mv (.t 4)⟩,
   ⟨(some 10), none, .bin .neq (.t 9) (.c (.int .i64 0))⟩])
  (.cond (.t 10)
   (.seq (.reg [⟨(some 11), none, .mv (.t 4)⟩,
    ⟨(some 2), none, .mv (.c (.int .i64 0))⟩,
    ⟨(some 3), none, .mv (.t 11)⟩])
   .ret)
   .skip)))
  (.seq (.seq (.reg [⟨(some 12), none, .fad 4 (.t 1)⟩,
   ⟨(some 13), none, .ld1 (.t 12)⟩,
   ⟨(some 14), none, .fad 3 (.t 1)⟩,
   ⟨(some 15), none, .ld1 (.t 14)⟩,
   ⟨(some 16), none, .call 29 [(.t 13), (.t 15)]⟩,
   ⟨(some 5), none, .mv (.t 16)⟩])
  (.seq (.reg [⟨(some 17), none, .mv (.t 5)⟩,
   ⟨(some 18), none, .bin .geq (.t 17) (.c (.int .i64 0))⟩])
  (.cond (.t 18)
   (.seq (.reg [⟨(some 19), none, .mv (.t 5)⟩,
    ⟨(some 2), none, .mv (.t 19)⟩,
    ⟨(some 3), none, .mv (.c (.int .i64 32))⟩])
   .ret)
   .skip)))
  (.seq (.seq (.reg [⟨(some 20), none, .fad 5 (.t 1)⟩,
   ⟨(some 21), none, .ld1 (.t 20)⟩,
   ⟨(some 22), none, .fad 2 (.t 1)⟩,
   ⟨(some 23), none, .ld1 (.t 22)⟩,
   ⟨(some 24), none, .call 29 [(.t 21), (.t 23)]⟩,
   ⟨(some 6), none, .mv (.t 24)⟩])
  (.seq (.reg [⟨(some 25), none, .mv (.t 6)⟩,
   ⟨(some 26), none, .bin .geq (.t 25) (.c (.int .i64 0))⟩])
  (.cond (.t 26)
   (.seq (.reg [⟨(some 27), none, .mv (.t 6)⟩,
    ⟨(some 2), none, .mv (.t 27)⟩,
    ⟨(some 3), none, .mv (.c (.int .i64 33))⟩])
   .ret)
   .skip)))
  (.seq (.reg [⟨(some 2), none, .mv (.c (.int .i64 0))⟩,
   ⟨(some 3), none, .mv (.c (.int .i64 0))⟩])
  .ret)))))
theorem fn21 : (ctxE Tryz.prog kpN env).fn 21 = some ⟨28, [.tmp 2, .tmp 3], c21, .plain⟩ := by kernel_rfl

/-- tutor/walk.Words -/
def c22 : AC :=
  (.seq (.reg [⟨(some 10), none, .mv (.c .nils)⟩,
   ⟨(some 11), none, .mv (.c (.int .i64 0))⟩])
  (.seq (.seq (.reg [⟨(some 13), none, .mv (.t 1)⟩,
   ⟨(some 14), none, .mv (.t 2)⟩,
   ⟨(some 15), none, .mv (.t 3)⟩,
   ⟨(some 16), none, .mv (.t 4)⟩,
   ⟨(some 17), none, .call 30 [(.t 13), (.t 14), (.t 15), (.t 16)]⟩,
   ⟨(some 12), none, .mv (.t 17)⟩])
  (.seq (.reg [⟨(some 18), none, .mv (.t 12)⟩,
   ⟨(some 19), none, .bin .neq (.t 18) (.c (.int .i64 0))⟩])
  (.cond (.t 19)
   (.seq (.reg [⟨(some 20), none, .mv (.t 12)⟩,
    ⟨(some 10), none, .mv (.c .nils)⟩,
    ⟨(some 11), none, .mv (.t 20)⟩])
   .ret)
   .skip)))
  (.seq (.reg [⟨(some 21), none, .mv (.t 0)⟩,
   ⟨(some 22), none, .mv (.t 1)⟩,
   ⟨(some 23), none, .mv (.t 2)⟩,
   ⟨(some 24), none, .mv (.t 3)⟩,
   ⟨(some 25), none, .mv (.t 4)⟩,
   ⟨(some 26), none, .call 32 [(.t 21), (.t 22), (.t 23), (.t 24), (.t 25)]⟩,
   ⟨(some 27), none, .call 31 [(.t 26)]⟩,
   ⟨(some 10), none, .mv (.t 27)⟩,
   ⟨(some 11), none, .mv (.c (.int .i64 0))⟩])
  .ret)))
theorem fn22 : (ctxE Tryz.prog kpN env).fn 22 = some ⟨28, [.tmp 10, .tmp 11], c22, .plain⟩ := by kernel_rfl

end Go.Proofs.YtacndjnjikdcoaaGreat.Vai
