/-
  The lowered code of the functions of this claim, and that it is the given program's; printed by an own program.
-/
import Derived.Test.YtbpbdpeccjoobaaChecked
import Derived.Test.YtbpbdpeccjoobaaFwN
import Derived.KernelRfl
namespace Go.Proofs.Ytbpbdpeccjoobaa
open Go.Fw
/-- glossator/glossatorlaw4.AnchorMapEqualsReference -/
def L3 : LFn := ⟨5, 147,
 (.seq (.region [⟨some 10, .mv (.c (.bool false)), none⟩])
 (.seq (.seq (.region [⟨some 27, .call 4 [], none⟩,
   ⟨some 28, .un .not (.t 27), none⟩])
 (.cond (.t 28)
  (.seq (.region [⟨some 10, .mv (.c (.bool false)), none⟩])
  .ret)
  .skip))
 (.seq (.region [⟨some 30, .mv (.t 0), none⟩,
   ⟨some 31, .mv (.t 1), none⟩,
   ⟨some 32, .mv (.t 3), none⟩,
   ⟨some 33, .call 5 [(.t 30), (.t 31), (.t 32)], none⟩,
   ⟨some 29, .mv (.t 33), none⟩,
   ⟨some 34, .ext 0 (.t 29), none⟩,
   ⟨some 35, .ext 1 (.t 29), none⟩,
   ⟨some 11, .mv (.t 34), none⟩,
   ⟨some 12, .mv (.t 35), none⟩])
 (.seq (.region [⟨some 37, .mv (.t 0), none⟩,
   ⟨some 38, .mv (.t 1), none⟩,
   ⟨some 39, .mv (.t 2), none⟩,
   ⟨some 40, .mv (.t 3), none⟩,
   ⟨some 41, .call 6 [(.t 37), (.t 38), (.t 39), (.t 40)], none⟩,
   ⟨some 36, .mv (.t 41), none⟩,
   ⟨some 42, .ext 0 (.t 36), none⟩,
   ⟨some 43, .ext 1 (.t 36), none⟩,
   ⟨some 44, .ext 2 (.t 36), none⟩,
   ⟨some 13, .mv (.t 42), none⟩,
   ⟨some 14, .mv (.t 43), none⟩,
   ⟨some 15, .mv (.t 44), none⟩])
 (.seq (.region [⟨some 46, .mv (.t 0), none⟩,
   ⟨some 47, .mv (.t 4), none⟩,
   ⟨some 48, .mv (.t 3), none⟩,
   ⟨some 49, .call 7 [(.t 46), (.t 47), (.t 48)], none⟩,
   ⟨some 45, .mv (.t 49), none⟩,
   ⟨some 50, .ext 0 (.t 45), none⟩,
   ⟨some 51, .ext 1 (.t 45), none⟩,
   ⟨some 16, .mv (.t 50), none⟩,
   ⟨some 17, .mv (.t 51), none⟩])
 (.seq (.region [⟨some 52, .mv (.t 0), none⟩,
   ⟨some 53, .call 8 [(.t 52)], none⟩,
   ⟨some 18, .mv (.t 53), none⟩])
 (.seq (.region [⟨some 54, .mv (.t 18), none⟩,
   ⟨some 55, .mv (.t 18), none⟩,
   ⟨some 56, .mv (.t 18), none⟩,
   ⟨some 19, .mv (.t 54), none⟩,
   ⟨some 20, .mv (.t 55), none⟩,
   ⟨some 21, .mv (.t 56), none⟩])
 (.seq (.region [⟨some 22, .mv (.c (.int .i64 0)), none⟩,
   ⟨some 23, .mv (.c (.int .i64 0)), none⟩,
   ⟨some 24, .mv (.c (.int .i64 0)), none⟩])
 (.seq (.region [⟨some 25, .mv (.c (.val (.slice none 0 0))), none⟩])
 (.seq (.seq (.region [⟨some 57, .mv (.t 18), none⟩,
   ⟨some 58, .bin .eql (.t 57) (.c (.int .i64 0)), none⟩,
   ⟨some 59, .mv (.t 58), none⟩,
   ⟨some 60, .mv (.t 1), some (59, true)⟩,
   ⟨some 61, .bin .lss (.t 60) (.c (.int .i64 0)), some (59, true)⟩,
   ⟨some 62, .pick (.t 59) (.t 61) (.c (.bool false)), none⟩])
 (.cond (.t 62)
  (.region [⟨some 19, .mv (.c (.int .i64 1)), none⟩,
    ⟨some 20, .mv (.c (.int .i64 1)), none⟩])
  .skip))
 (.seq (.seq (.region [⟨some 63, .mv (.t 20), none⟩,
   ⟨some 64, .bin .eql (.t 63) (.c (.int .i64 0)), none⟩,
   ⟨some 65, .mv (.t 64), none⟩,
   ⟨some 66, .mv (.t 2), some (65, true)⟩,
   ⟨some 67, .mv (.t 1), some (65, true)⟩,
   ⟨some 68, .bin .lss (.t 66) (.t 67), some (65, true)⟩,
   ⟨some 69, .pick (.t 65) (.t 68) (.c (.bool false)), none⟩])
 (.cond (.t 69)
  (.region [⟨some 20, .mv (.c (.int .i64 1)), none⟩])
  .skip))
 (.seq (.seq (.region [⟨some 70, .mv (.t 19), none⟩,
   ⟨some 71, .bin .eql (.t 70) (.c (.int .i64 0)), none⟩])
 (.cond (.t 71)
  (.region [⟨some 72, .mv (.t 0), none⟩,
    ⟨some 73, .mv (.t 1), none⟩,
    ⟨some 74, .mv (.t 3), none⟩,
    ⟨some 75, .call 9 [(.t 72), (.t 73), (.t 74)], none⟩,
    ⟨some 22, .mv (.t 75), none⟩])
  .skip))
 (.seq (.seq (.region [⟨some 76, .mv (.t 20), none⟩,
   ⟨some 77, .bin .eql (.t 76) (.c (.int .i64 0)), none⟩])
 (.cond (.t 77)
  (.seq (.region [⟨some 78, .mv (.t 0), none⟩,
    ⟨some 79, .mv (.t 1), none⟩,
    ⟨some 80, .mv (.t 3), none⟩,
    ⟨some 81, .un .not (.t 80), none⟩,
    ⟨some 82, .call 9 [(.t 78), (.t 79), (.t 81)], none⟩,
    ⟨some 23, .mv (.t 82), none⟩])
  (.region [⟨some 83, .mv (.t 23), none⟩,
    ⟨some 84, .mv (.t 0), none⟩,
    ⟨some 85, .mv (.t 2), none⟩,
    ⟨some 86, .mv (.t 3), none⟩,
    ⟨some 87, .call 9 [(.t 84), (.t 85), (.t 86)], none⟩,
    ⟨some 88, .mnx true [(.t 83), (.t 87)], none⟩,
    ⟨some 24, .mv (.t 88), none⟩]))
  .skip))
 (.seq (.seq (.region [⟨some 26, .mv (.c (.int .i64 0)), none⟩])
 (.block 0
  (.loop
   (.seq (.seq (.region [⟨some 89, .mv (.t 26), none⟩,
     ⟨some 90, .mv (.t 4), none⟩,
     ⟨some 91, .len false (.t 90), none⟩,
     ⟨some 92, .bin .lss (.t 89) (.t 91), none⟩,
     ⟨some 93, .mv (.t 92), none⟩,
     ⟨some 94, .mv (.t 21), some (93, true)⟩,
     ⟨some 95, .bin .eql (.t 94) (.c (.int .i64 0)), some (93, true)⟩,
     ⟨some 96, .pick (.t 93) (.t 95) (.c (.bool false)), none⟩])
   (.cond (.t 96)
    .skip
    (.exit 0)))
   (.seq (.block 1
    (.seq (.region [⟨some 99, .mv (.t 4), none⟩,
      ⟨some 100, .mv (.t 26), none⟩,
      ⟨some 101, .iaddr 1 (.t 99) (.t 100), none⟩,
      ⟨some 102, .load false 1 (.t 101), none⟩,
      ⟨some 103, .bin .lss (.t 102) (.c (.int .i64 0)), none⟩])
    (.cond (.t 103)
     (.region [⟨some 25, .mv (.c (.val (.slice none 0 0))), none⟩,
       ⟨some 21, .mv (.c (.int .i64 1)), none⟩])
     (.region [⟨some 104, .mv (.t 25), none⟩,
       ⟨some 105, .mv (.t 0), none⟩,
       ⟨some 106, .mv (.t 4), none⟩,
       ⟨some 107, .mv (.t 26), none⟩,
       ⟨some 108, .iaddr 1 (.t 106) (.t 107), none⟩,
       ⟨some 109, .load false 1 (.t 108), none⟩,
       ⟨some 110, .mv (.t 3), none⟩,
       ⟨some 111, .call 9 [(.t 105), (.t 109), (.t 110)], none⟩,
       ⟨some 112, .mkSl 1 [(.int .i64 0)] 1 [(0, (.t 111))], none⟩,
       ⟨some 113, .app 1 8 (.t 104) (.t 112), none⟩,
       ⟨some 25, .mv (.t 113), none⟩]))))
   (.region [⟨some 97, .mv (.t 26), none⟩,
     ⟨some 98, .bin .add (.t 97) (.c (.int .i64 1)), none⟩,
     ⟨some 26, .mv (.t 98), none⟩]))))))
 (.seq (.region [⟨some 114, .mv (.t 11), none⟩,
   ⟨some 115, .mv (.t 22), none⟩,
   ⟨some 116, .bin .eql (.t 114) (.t 115), none⟩,
   ⟨some 117, .mv (.t 116), none⟩,
   ⟨some 118, .mv (.t 12), some (117, true)⟩,
   ⟨some 119, .mv (.t 19), some (117, true)⟩,
   ⟨some 120, .bin .eql (.t 118) (.t 119), some (117, true)⟩,
   ⟨some 121, .pick (.t 117) (.t 120) (.c (.bool false)), none⟩,
   ⟨some 122, .mv (.t 121), none⟩,
   ⟨some 123, .mv (.t 13), some (122, true)⟩,
   ⟨some 124, .mv (.t 23), some (122, true)⟩,
   ⟨some 125, .bin .eql (.t 123) (.t 124), some (122, true)⟩,
   ⟨some 126, .pick (.t 122) (.t 125) (.c (.bool false)), none⟩,
   ⟨some 127, .mv (.t 126), none⟩,
   ⟨some 128, .mv (.t 14), some (127, true)⟩,
   ⟨some 129, .mv (.t 24), some (127, true)⟩,
   ⟨some 130, .bin .eql (.t 128) (.t 129), some (127, true)⟩,
   ⟨some 131, .pick (.t 127) (.t 130) (.c (.bool false)), none⟩,
   ⟨some 132, .mv (.t 131), none⟩,
   ⟨some 133, .mv (.t 15), some (132, true)⟩,
   ⟨some 134, .mv (.t 20), some (132, true)⟩,
   ⟨some 135, .bin .eql (.t 133) (.t 134), some (132, true)⟩,
   ⟨some 136, .pick (.t 132) (.t 135) (.c (.bool false)), none⟩,
   ⟨some 137, .mv (.t 136), none⟩,
   ⟨some 138, .mv (.t 16), some (137, true)⟩,
   ⟨some 139, .mv (.t 25), some (137, true)⟩,
   ⟨some 140, .call 10 [(.t 138), (.t 139)], some (137, true)⟩,
   ⟨some 141, .pick (.t 137) (.t 140) (.c (.bool false)), none⟩,
   ⟨some 142, .mv (.t 141), none⟩,
   ⟨some 143, .mv (.t 17), some (142, true)⟩,
   ⟨some 144, .mv (.t 21), some (142, true)⟩,
   ⟨some 145, .bin .eql (.t 143) (.t 144), some (142, true)⟩,
   ⟨some 146, .pick (.t 142) (.t 145) (.c (.bool false)), none⟩,
   ⟨some 10, .mv (.t 146), none⟩])
 .ret))))))))))))))),
 [10]⟩
/-- glossator/glossatorlaw4.anchorExamples -/
def L4 : LFn := ⟨0, 101,
 (.seq (.region [⟨some 0, .mv (.c (.bool false)), none⟩])
 (.seq (.region [⟨some 15, .build [(.int .i64 0), (.int .i64 0), (.str [])] [(0, 1, (.c (.int .i64 2))), (1, 1, (.c (.int .i64 5))), (2, 1, (.c (.str [120])))], none⟩,
   ⟨some 16, .build [(.int .i64 0), (.int .i64 0), (.str [])] [(0, 1, (.c (.int .i64 7))), (1, 1, (.c (.int .i64 7))), (2, 1, (.c (.str [121, 121])))], none⟩,
   ⟨some 17, .mkSl 3 [(.int .i64 0), (.int .i64 0), (.str [])] 2 [(0, (.t 15)), (1, (.t 16))], none⟩,
   ⟨some 1, .mv (.t 17), none⟩])
 (.seq (.region [⟨some 19, .mv (.t 1), none⟩,
   ⟨some 20, .call 5 [(.t 19), (.c (.int .i64 3)), (.c (.bool false))], none⟩,
   ⟨some 18, .mv (.t 20), none⟩,
   ⟨some 21, .ext 0 (.t 18), none⟩,
   ⟨some 22, .ext 1 (.t 18), none⟩,
   ⟨some 2, .mv (.t 21), none⟩,
   ⟨some 3, .mv (.t 22), none⟩])
 (.seq (.region [⟨some 24, .mv (.t 1), none⟩,
   ⟨some 25, .call 5 [(.t 24), (.c (.int .i64 3)), (.c (.bool true))], none⟩,
   ⟨some 23, .mv (.t 25), none⟩,
   ⟨some 26, .ext 0 (.t 23), none⟩,
   ⟨some 27, .ext 1 (.t 23), none⟩,
   ⟨some 4, .mv (.t 26), none⟩,
   ⟨some 5, .mv (.t 27), none⟩])
 (.seq (.region [⟨some 29, .mv (.t 1), none⟩,
   ⟨some 30, .call 5 [(.t 29), (.c (.int .i64 7)), (.c (.bool false))], none⟩,
   ⟨some 28, .mv (.t 30), none⟩,
   ⟨some 31, .ext 0 (.t 28), none⟩,
   ⟨some 32, .ext 1 (.t 28), none⟩,
   ⟨some 6, .mv (.t 31), none⟩,
   ⟨some 7, .mv (.t 32), none⟩])
 (.seq (.region [⟨some 34, .mv (.t 1), none⟩,
   ⟨some 35, .call 5 [(.t 34), (.c (.int .i64 7)), (.c (.bool true))], none⟩,
   ⟨some 33, .mv (.t 35), none⟩,
   ⟨some 36, .ext 0 (.t 33), none⟩,
   ⟨some 37, .ext 1 (.t 33), none⟩,
   ⟨some 8, .mv (.t 36), none⟩,
   ⟨some 9, .mv (.t 37), none⟩])
 (.seq (.region [⟨some 39, .mv (.t 1), none⟩,
   ⟨some 40, .call 6 [(.t 39), (.c (.int .i64 7)), (.c (.int .i64 9)), (.c (.bool true))], none⟩,
   ⟨some 38, .mv (.t 40), none⟩,
   ⟨some 41, .ext 0 (.t 38), none⟩,
   ⟨some 42, .ext 1 (.t 38), none⟩,
   ⟨some 43, .ext 2 (.t 38), none⟩,
   ⟨some 10, .mv (.t 41), none⟩,
   ⟨some 11, .mv (.t 42), none⟩,
   ⟨some 12, .mv (.t 43), none⟩])
 (.seq (.region [⟨some 45, .mv (.t 1), none⟩,
   ⟨some 46, .mkSl 1 [(.int .i64 0)] 3 [(0, (.c (.int .i64 0))), (1, (.c (.int .i64 6))), (2, (.c (.int .i64 8)))], none⟩,
   ⟨some 47, .call 7 [(.t 45), (.t 46), (.c (.bool false))], none⟩,
   ⟨some 44, .mv (.t 47), none⟩,
   ⟨some 48, .ext 0 (.t 44), none⟩,
   ⟨some 49, .ext 1 (.t 44), none⟩,
   ⟨some 13, .mv (.t 48), none⟩,
   ⟨some 14, .mv (.t 49), none⟩])
 (.seq (.region [⟨some 50, .mv (.t 3), none⟩,
   ⟨some 51, .bin .eql (.t 50) (.c (.int .i64 0)), none⟩,
   ⟨some 52, .mv (.t 51), none⟩,
   ⟨some 53, .mv (.t 5), some (52, true)⟩,
   ⟨some 54, .bin .eql (.t 53) (.c (.int .i64 0)), some (52, true)⟩,
   ⟨some 55, .pick (.t 52) (.t 54) (.c (.bool false)), none⟩,
   ⟨some 56, .mv (.t 55), none⟩,
   ⟨some 57, .mv (.t 7), some (56, true)⟩,
   ⟨some 58, .bin .eql (.t 57) (.c (.int .i64 0)), some (56, true)⟩,
   ⟨some 59, .pick (.t 56) (.t 58) (.c (.bool false)), none⟩,
   ⟨some 60, .mv (.t 59), none⟩,
   ⟨some 61, .mv (.t 9), some (60, true)⟩,
   ⟨some 62, .bin .eql (.t 61) (.c (.int .i64 0)), some (60, true)⟩,
   ⟨some 63, .pick (.t 60) (.t 62) (.c (.bool false)), none⟩,
   ⟨some 64, .mv (.t 63), none⟩,
   ⟨some 65, .mv (.t 12), some (64, true)⟩,
   ⟨some 66, .bin .eql (.t 65) (.c (.int .i64 0)), some (64, true)⟩,
   ⟨some 67, .pick (.t 64) (.t 66) (.c (.bool false)), none⟩,
   ⟨some 68, .mv (.t 67), none⟩,
   ⟨some 69, .mv (.t 14), some (68, true)⟩,
   ⟨some 70, .bin .eql (.t 69) (.c (.int .i64 0)), some (68, true)⟩,
   ⟨some 71, .pick (.t 68) (.t 70) (.c (.bool false)), none⟩,
   ⟨some 72, .mv (.t 71), none⟩,
   ⟨some 73, .mv (.t 2), some (72, true)⟩,
   ⟨some 74, .bin .eql (.t 73) (.c (.int .i64 2)), some (72, true)⟩,
   ⟨some 75, .pick (.t 72) (.t 74) (.c (.bool false)), none⟩,
   ⟨some 76, .mv (.t 75), none⟩,
   ⟨some 77, .mv (.t 4), some (76, true)⟩,
   ⟨some 78, .bin .eql (.t 77) (.c (.int .i64 3)), some (76, true)⟩,
   ⟨some 79, .pick (.t 76) (.t 78) (.c (.bool false)), none⟩,
   ⟨some 80, .mv (.t 79), none⟩,
   ⟨some 81, .mv (.t 6), some (80, true)⟩,
   ⟨some 82, .bin .eql (.t 81) (.c (.int .i64 5)), some (80, true)⟩,
   ⟨some 83, .pick (.t 80) (.t 82) (.c (.bool false)), none⟩,
   ⟨some 84, .mv (.t 83), none⟩,
   ⟨some 85, .mv (.t 8), some (84, true)⟩,
   ⟨some 86, .bin .eql (.t 85) (.c (.int .i64 7)), some (84, true)⟩,
   ⟨some 87, .pick (.t 84) (.t 86) (.c (.bool false)), none⟩,
   ⟨some 88, .mv (.t 87), none⟩,
   ⟨some 89, .mv (.t 10), some (88, true)⟩,
   ⟨some 90, .bin .eql (.t 89) (.c (.int .i64 5)), some (88, true)⟩,
   ⟨some 91, .pick (.t 88) (.t 90) (.c (.bool false)), none⟩,
   ⟨some 92, .mv (.t 91), none⟩,
   ⟨some 93, .mv (.t 11), some (92, true)⟩,
   ⟨some 94, .bin .eql (.t 93) (.c (.int .i64 9)), some (92, true)⟩,
   ⟨some 95, .pick (.t 92) (.t 94) (.c (.bool false)), none⟩,
   ⟨some 96, .mv (.t 95), none⟩,
   ⟨some 97, .mv (.t 13), some (96, true)⟩,
   ⟨some 98, .mkSl 1 [(.int .i64 0)] 3 [(0, (.c (.int .i64 0))), (1, (.c (.int .i64 4))), (2, (.c (.int .i64 8)))], some (96, true)⟩,
   ⟨some 99, .call 10 [(.t 97), (.t 98)], some (96, true)⟩,
   ⟨some 100, .pick (.t 96) (.t 99) (.c (.bool false)), none⟩,
   ⟨some 0, .mv (.t 100), none⟩])
 .ret))))))))),
 [0]⟩
/-- glossator/anchor.Map -/
def L5 : LFn := ⟨3, 24,
 (.seq (.region [⟨some 6, .mv (.c (.int .i64 0)), none⟩,
   ⟨some 7, .mv (.c (.int .i64 0)), none⟩])
 (.seq (.region [⟨some 9, .mv (.t 0), none⟩,
   ⟨some 10, .call 11 [(.t 9)], none⟩,
   ⟨some 8, .mv (.t 10), none⟩])
 (.seq (.seq (.region [⟨some 11, .mv (.t 8), none⟩,
   ⟨some 12, .bin .eql (.t 11) (.c (.int .i64 0)), none⟩,
   ⟨some 13, .mv (.t 12), none⟩,
   ⟨some 14, .mv (.t 1), some (13, true)⟩,
   ⟨some 15, .bin .lss (.t 14) (.c (.int .i64 0)), some (13, true)⟩,
   ⟨some 16, .pick (.t 13) (.t 15) (.c (.bool false)), none⟩])
 (.cond (.t 16)
  (.region [⟨some 8, .mv (.c (.int .i64 1)), none⟩])
  .skip))
 (.seq (.seq (.region [⟨some 17, .mv (.t 8), none⟩,
   ⟨some 18, .bin .neq (.t 17) (.c (.int .i64 0)), none⟩])
 (.cond (.t 18)
  (.seq (.region [⟨some 19, .mv (.t 8), none⟩,
    ⟨some 6, .mv (.c (.int .i64 0)), none⟩,
    ⟨some 7, .mv (.t 19), none⟩])
  .ret)
  .skip))
 (.seq (.region [⟨some 20, .mv (.t 0), none⟩,
   ⟨some 21, .mv (.t 1), none⟩,
   ⟨some 22, .mv (.t 2), none⟩,
   ⟨some 23, .call 12 [(.t 20), (.t 21), (.t 22)], none⟩,
   ⟨some 6, .mv (.t 23), none⟩,
   ⟨some 7, .mv (.c (.int .i64 0)), none⟩])
 .ret))))),
 [6, 7]⟩
/-- glossator/anchor.MapRange -/
def L6 : LFn := ⟨4, 41,
 (.seq (.region [⟨some 8, .mv (.c (.int .i64 0)), none⟩,
   ⟨some 9, .mv (.c (.int .i64 0)), none⟩,
   ⟨some 10, .mv (.c (.int .i64 0)), none⟩])
 (.seq (.region [⟨some 13, .mv (.t 0), none⟩,
   ⟨some 14, .call 11 [(.t 13)], none⟩,
   ⟨some 11, .mv (.t 14), none⟩])
 (.seq (.seq (.region [⟨some 15, .mv (.t 11), none⟩,
   ⟨some 16, .bin .eql (.t 15) (.c (.int .i64 0)), none⟩,
   ⟨some 17, .mv (.t 16), none⟩,
   ⟨some 18, .mv (.t 1), some (17, true)⟩,
   ⟨some 19, .bin .lss (.t 18) (.c (.int .i64 0)), some (17, true)⟩,
   ⟨some 20, .mv (.t 19), some (17, true)⟩,
   ⟨some 21, .mv (.t 2), some (20, false)⟩,
   ⟨some 22, .mv (.t 1), some (20, false)⟩,
   ⟨some 23, .bin .lss (.t 21) (.t 22), some (20, false)⟩,
   ⟨some 24, .pick (.t 20) (.c (.bool true)) (.t 23), some (17, true)⟩,
   ⟨some 25, .pick (.t 17) (.t 24) (.c (.bool false)), none⟩])
 (.cond (.t 25)
  (.region [⟨some 11, .mv (.c (.int .i64 1)), none⟩])
  .skip))
 (.seq (.seq (.region [⟨some 26, .mv (.t 11), none⟩,
   ⟨some 27, .bin .neq (.t 26) (.c (.int .i64 0)), none⟩])
 (.cond (.t 27)
  (.seq (.region [⟨some 28, .mv (.t 11), none⟩,
    ⟨some 8, .mv (.c (.int .i64 0)), none⟩,
    ⟨some 9, .mv (.c (.int .i64 0)), none⟩,
    ⟨some 10, .mv (.t 28), none⟩])
  .ret)
  .skip))
 (.seq (.region [⟨some 29, .mv (.t 0), none⟩,
   ⟨some 30, .mv (.t 1), none⟩,
   ⟨some 31, .mv (.t 3), none⟩,
   ⟨some 32, .un .not (.t 31), none⟩,
   ⟨some 33, .call 12 [(.t 29), (.t 30), (.t 32)], none⟩,
   ⟨some 12, .mv (.t 33), none⟩])
 (.seq (.region [⟨some 34, .mv (.t 12), none⟩,
   ⟨some 35, .mv (.t 12), none⟩,
   ⟨some 36, .mv (.t 0), none⟩,
   ⟨some 37, .mv (.t 2), none⟩,
   ⟨some 38, .mv (.t 3), none⟩,
   ⟨some 39, .call 12 [(.t 36), (.t 37), (.t 38)], none⟩,
   ⟨some 40, .mnx true [(.t 35), (.t 39)], none⟩,
   ⟨some 8, .mv (.t 34), none⟩,
   ⟨some 9, .mv (.t 40), none⟩,
   ⟨some 10, .mv (.c (.int .i64 0)), none⟩])
 .ret)))))),
 [8, 9, 10]⟩
/-- glossator/anchor.MapAll -/
def L7 : LFn := ⟨3, 34,
 (.seq (.region [⟨some 6, .mv (.c (.val (.slice none 0 0))), none⟩,
   ⟨some 7, .mv (.c (.int .i64 0)), none⟩])
 (.seq (.seq (.region [⟨some 12, .mv (.t 0), none⟩,
   ⟨some 13, .call 11 [(.t 12)], none⟩,
   ⟨some 8, .mv (.t 13), none⟩])
 (.seq (.region [⟨some 14, .mv (.t 8), none⟩,
   ⟨some 15, .bin .neq (.t 14) (.c (.int .i64 0)), none⟩])
 (.cond (.t 15)
  (.seq (.region [⟨some 16, .mv (.t 8), none⟩,
    ⟨some 6, .mv (.c (.val (.slice none 0 0))), none⟩,
    ⟨some 7, .mv (.t 16), none⟩])
  .ret)
  .skip)))
 (.seq (.region [⟨some 9, .mv (.c (.val (.slice none 0 0))), none⟩])
 (.seq (.seq (.region [⟨some 17, .mv (.t 1), none⟩,
   ⟨some 18, .len false (.t 17), none⟩,
   ⟨some 19, .mv (.c (.int .i64 0)), none⟩])
 (.block 0
  (.loop
   (.seq (.region [⟨some 20, .bin .lss (.t 19) (.t 18), none⟩])
   (.seq (.cond (.t 20)
    .skip
    (.exit 0))
   (.seq (.block 1
    (.seq (.region [⟨some 21, .iaddr 1 (.t 17) (.t 19), none⟩,
      ⟨some 22, .load false 1 (.t 21), none⟩,
      ⟨some 11, .mv (.t 22), none⟩])
    (.seq (.seq (.region [⟨some 23, .mv (.t 11), none⟩,
      ⟨some 24, .bin .lss (.t 23) (.c (.int .i64 0)), none⟩])
    (.cond (.t 24)
     (.seq (.region [⟨some 6, .mv (.c (.val (.slice none 0 0))), none⟩,
       ⟨some 7, .mv (.c (.int .i64 1)), none⟩])
     .ret)
     .skip))
    (.region [⟨some 25, .mv (.t 9), none⟩,
      ⟨some 26, .mv (.t 0), none⟩,
      ⟨some 27, .mv (.t 11), none⟩,
      ⟨some 28, .mv (.t 2), none⟩,
      ⟨some 29, .call 12 [(.t 26), (.t 27), (.t 28)], none⟩,
      ⟨some 30, .mkSl 1 [(.int .i64 0)] 1 [(0, (.t 29))], none⟩,
      ⟨some 31, .app 1 8 (.t 25) (.t 30), none⟩,
      ⟨some 9, .mv (.t 31), none⟩]))))
   (.region [⟨some 32, .bin .add (.t 19) (.c (.int .i64 1)), none⟩,
     ⟨some 19, .mv (.t 32), none⟩])))))))
 (.seq (.region [⟨some 33, .mv (.t 9), none⟩,
   ⟨some 6, .mv (.t 33), none⟩,
   ⟨some 7, .mv (.c (.int .i64 0)), none⟩])
 .ret))))),
 [6, 7]⟩
/-- glossator/glossatorref4.ValidateOrder -/
def L8 : LFn := ⟨1, 50,
 (.seq (.region [⟨some 2, .mv (.c (.int .i64 0)), none⟩])
 (.seq (.seq (.region [⟨some 4, .mv (.t 0), none⟩,
   ⟨some 5, .len false (.t 4), none⟩,
   ⟨some 6, .bin .gtr (.t 5) (.c (.int .i64 50)), none⟩])
 (.cond (.t 6)
  (.seq (.region [⟨some 2, .mv (.c (.int .i64 2)), none⟩])
  .ret)
  .skip))
 (.seq (.seq (.region [⟨some 3, .mv (.c (.int .i64 0)), none⟩])
 (.block 0
  (.loop
   (.seq (.seq (.region [⟨some 7, .mv (.t 3), none⟩,
     ⟨some 8, .mv (.t 0), none⟩,
     ⟨some 9, .len false (.t 8), none⟩,
     ⟨some 10, .bin .lss (.t 7) (.t 9), none⟩])
   (.cond (.t 10)
    .skip
    (.exit 0)))
   (.seq (.block 1
    (.seq (.quiet [⟨some 13, .mv (.t 0), none⟩,
      ⟨some 14, .mv (.t 3), none⟩,
      ⟨some 15, .iaddr 3 (.t 13) (.t 14), none⟩,
      ⟨some 16, .faddr 0 (.t 15), none⟩,
      ⟨some 17, .load false 1 (.t 16), none⟩,
      ⟨some 18, .bin .lss (.t 17) (.c (.int .i64 0)), none⟩,
      ⟨some 19, .mv (.t 18), none⟩,
      ⟨some 20, .mv (.t 0), some (19, false)⟩,
      ⟨some 21, .mv (.t 3), some (19, false)⟩,
      ⟨some 22, .iaddr 3 (.t 20) (.t 21), some (19, false)⟩,
      ⟨some 23, .faddr 1 (.t 22), some (19, false)⟩,
      ⟨some 24, .load false 1 (.t 23), some (19, false)⟩,
      ⟨some 25, .mv (.t 0), some (19, false)⟩,
      ⟨some 26, .mv (.t 3), some (19, false)⟩,
      ⟨some 27, .iaddr 3 (.t 25) (.t 26), some (19, false)⟩,
      ⟨some 28, .faddr 0 (.t 27), some (19, false)⟩,
      ⟨some 29, .load false 1 (.t 28), some (19, false)⟩,
      ⟨some 30, .bin .lss (.t 24) (.t 29), some (19, false)⟩,
      ⟨some 31, .pick (.t 19) (.c (.bool true)) (.t 30), none⟩,
      ⟨some 32, .mv (.t 31), none⟩,
      ⟨some 33, .mv (.t 3), some (32, false)⟩,
      ⟨some 34, .bin .gtr (.t 33) (.c (.int .i64 0)), some (32, false)⟩,
      ⟨some 35, .mv (.t 34), some (32, false)⟩,
      ⟨some 36, .mv (.t 0), some (35, true)⟩,
      ⟨some 37, .mv (.t 3), some (35, true)⟩,
      ⟨some 38, .iaddr 3 (.t 36) (.t 37), some (35, true)⟩,
      ⟨some 39, .faddr 0 (.t 38), some (35, true)⟩,
      ⟨some 40, .load false 1 (.t 39), some (35, true)⟩,
      ⟨some 41, .mv (.t 0), some (35, true)⟩,
      ⟨some 42, .mv (.t 3), some (35, true)⟩,
      ⟨some 43, .bin .sub (.t 42) (.c (.int .i64 1)), some (35, true)⟩,
      ⟨some 44, .iaddr 3 (.t 41) (.t 43), some (35, true)⟩,
      ⟨some 45, .faddr 1 (.t 44), some (35, true)⟩,
      ⟨some 46, .load false 1 (.t 45), some (35, true)⟩,
      ⟨some 47, .bin .leq (.t 40) (.t 46), some (35, true)⟩,
      ⟨some 48, .pick (.t 35) (.t 47) (.c (.bool false)), some (32, false)⟩,
      ⟨some 49, .pick (.t 32) (.c (.bool true)) (.t 48), none⟩])
    (.cond (.t 49)
     (.seq (.region [⟨some 2, .mv (.c (.int .i64 3)), none⟩])
     .ret)
     .skip)))
   (.region [⟨some 11, .mv (.t 3), none⟩,
     ⟨some 12, .bin .add (.t 11) (.c (.int .i64 1)), none⟩,
     ⟨some 3, .mv (.t 12), none⟩]))))))
 (.seq (.region [⟨some 2, .mv (.c (.int .i64 0)), none⟩])
 .ret)))),
 [2]⟩
/-- glossator/glossatorref4.MapOffset -/
def L9 : LFn := ⟨3, 72,
 (.seq (.region [⟨some 6, .mv (.c (.int .i64 0)), none⟩])
 (.seq (.region [⟨some 10, .mv (.t 1), none⟩,
   ⟨some 7, .mv (.t 10), none⟩])
 (.seq (.seq (.region [⟨some 11, .mv (.t 0), none⟩,
   ⟨some 12, .len false (.t 11), none⟩,
   ⟨some 13, .bin .sub (.t 12) (.c (.int .i64 1)), none⟩,
   ⟨some 8, .mv (.t 13), none⟩])
 (.block 0
  (.loop
   (.seq (.seq (.region [⟨some 14, .mv (.t 8), none⟩,
     ⟨some 15, .bin .geq (.t 14) (.c (.int .i64 0)), none⟩])
   (.cond (.t 15)
    .skip
    (.exit 0)))
   (.seq (.block 1
    (.seq (.region [⟨some 18, .mv (.t 0), none⟩,
      ⟨some 19, .mv (.t 8), none⟩,
      ⟨some 20, .iaddr 3 (.t 18) (.t 19), none⟩,
      ⟨some 21, .load true 3 (.t 20), none⟩,
      ⟨some 9, .alloc [(.int .i64 0), (.int .i64 0), (.str [])], none⟩,
      ⟨none, .store 3 (.t 9) (.t 21), none⟩])
    (.seq (.region [⟨some 22, .mv (.t 1), none⟩,
      ⟨some 23, .faddr 0 (.t 9), none⟩,
      ⟨some 24, .load false 1 (.t 23), none⟩,
      ⟨some 25, .bin .gtr (.t 22) (.t 24), none⟩,
      ⟨some 26, .mv (.t 25), none⟩,
      ⟨some 27, .mv (.t 1), some (26, true)⟩,
      ⟨some 28, .faddr 1 (.t 9), some (26, true)⟩,
      ⟨some 29, .load false 1 (.t 28), some (26, true)⟩,
      ⟨some 30, .bin .lss (.t 27) (.t 29), some (26, true)⟩,
      ⟨some 31, .pick (.t 26) (.t 30) (.c (.bool false)), none⟩])
    (.cond (.t 31)
     (.seq (.region [⟨some 32, .faddr 0 (.t 9), none⟩,
       ⟨some 33, .load false 1 (.t 32), none⟩,
       ⟨some 7, .mv (.t 33), none⟩])
     (.seq (.region [⟨some 34, .mv (.t 2), none⟩])
     (.cond (.t 34)
      (.region [⟨some 35, .faddr 0 (.t 9), none⟩,
        ⟨some 36, .load false 1 (.t 35), none⟩,
        ⟨some 37, .faddr 2 (.t 9), none⟩,
        ⟨some 38, .load false 1 (.t 37), none⟩,
        ⟨some 39, .len true (.t 38), none⟩,
        ⟨some 40, .bin .add (.t 36) (.t 39), none⟩,
        ⟨some 7, .mv (.t 40), none⟩])
      .skip)))
     (.seq (.region [⟨some 41, .mv (.t 1), none⟩,
       ⟨some 42, .faddr 1 (.t 9), none⟩,
       ⟨some 43, .load false 1 (.t 42), none⟩,
       ⟨some 44, .bin .gtr (.t 41) (.t 43), none⟩,
       ⟨some 45, .mv (.t 44), none⟩,
       ⟨some 46, .mv (.t 1), some (45, false)⟩,
       ⟨some 47, .faddr 1 (.t 9), some (45, false)⟩,
       ⟨some 48, .load false 1 (.t 47), some (45, false)⟩,
       ⟨some 49, .bin .eql (.t 46) (.t 48), some (45, false)⟩,
       ⟨some 50, .mv (.t 49), some (45, false)⟩,
       ⟨some 51, .mv (.t 1), some (50, true)⟩,
       ⟨some 52, .faddr 0 (.t 9), some (50, true)⟩,
       ⟨some 53, .load false 1 (.t 52), some (50, true)⟩,
       ⟨some 54, .bin .gtr (.t 51) (.t 53), some (50, true)⟩,
       ⟨some 55, .mv (.t 54), some (50, true)⟩,
       ⟨some 56, .mv (.t 2), some (55, false)⟩,
       ⟨some 57, .pick (.t 55) (.c (.bool true)) (.t 56), some (50, true)⟩,
       ⟨some 58, .pick (.t 50) (.t 57) (.c (.bool false)), some (45, false)⟩,
       ⟨some 59, .pick (.t 45) (.c (.bool true)) (.t 58), none⟩])
     (.cond (.t 59)
      (.region [⟨some 60, .mv (.t 7), none⟩,
        ⟨some 61, .faddr 2 (.t 9), none⟩,
        ⟨some 62, .load false 1 (.t 61), none⟩,
        ⟨some 63, .len true (.t 62), none⟩,
        ⟨some 64, .bin .add (.t 60) (.t 63), none⟩,
        ⟨some 65, .faddr 0 (.t 9), none⟩,
        ⟨some 66, .load false 1 (.t 65), none⟩,
        ⟨some 67, .bin .add (.t 64) (.t 66), none⟩,
        ⟨some 68, .faddr 1 (.t 9), none⟩,
        ⟨some 69, .load false 1 (.t 68), none⟩,
        ⟨some 70, .bin .sub (.t 67) (.t 69), none⟩,
        ⟨some 7, .mv (.t 70), none⟩])
      .skip))))))
   (.region [⟨some 16, .mv (.t 8), none⟩,
     ⟨some 17, .bin .sub (.t 16) (.c (.int .i64 1)), none⟩,
     ⟨some 8, .mv (.t 17), none⟩]))))))
 (.seq (.region [⟨some 71, .mv (.t 7), none⟩,
   ⟨some 6, .mv (.t 71), none⟩])
 .ret)))),
 [6]⟩
/-- glossator/glossatorref4.EqualInts -/
def L10 : LFn := ⟨2, 26,
 (.seq (.region [⟨some 4, .mv (.c (.bool false)), none⟩])
 (.seq (.seq (.region [⟨some 6, .mv (.t 0), none⟩,
   ⟨some 7, .len false (.t 6), none⟩,
   ⟨some 8, .mv (.t 1), none⟩,
   ⟨some 9, .len false (.t 8), none⟩,
   ⟨some 10, .bin .neq (.t 7) (.t 9), none⟩])
 (.cond (.t 10)
  (.seq (.region [⟨some 4, .mv (.c (.bool false)), none⟩])
  .ret)
  .skip))
 (.seq (.seq (.region [⟨some 5, .mv (.c (.int .i64 0)), none⟩])
 (.block 0
  (.loop
   (.seq (.seq (.region [⟨some 11, .mv (.t 5), none⟩,
     ⟨some 12, .mv (.t 0), none⟩,
     ⟨some 13, .len false (.t 12), none⟩,
     ⟨some 14, .bin .lss (.t 11) (.t 13), none⟩])
   (.cond (.t 14)
    .skip
    (.exit 0)))
   (.seq (.block 1
    (.seq (.quiet [⟨some 17, .mv (.t 0), none⟩,
      ⟨some 18, .mv (.t 5), none⟩,
      ⟨some 19, .iaddr 1 (.t 17) (.t 18), none⟩,
      ⟨some 20, .load false 1 (.t 19), none⟩,
      ⟨some 21, .mv (.t 1), none⟩,
      ⟨some 22, .mv (.t 5), none⟩,
      ⟨some 23, .iaddr 1 (.t 21) (.t 22), none⟩,
      ⟨some 24, .load false 1 (.t 23), none⟩,
      ⟨some 25, .bin .neq (.t 20) (.t 24), none⟩])
    (.cond (.t 25)
     (.seq (.region [⟨some 4, .mv (.c (.bool false)), none⟩])
     .ret)
     .skip)))
   (.region [⟨some 15, .mv (.t 5), none⟩,
     ⟨some 16, .bin .add (.t 15) (.c (.int .i64 1)), none⟩,
     ⟨some 5, .mv (.t 16), none⟩]))))))
 (.seq (.region [⟨some 4, .mv (.c (.bool true)), none⟩])
 .ret)))),
 [4]⟩
/-- glossator/anchor.validate -/
def L11 : LFn := ⟨1, 29,
 (.seq (.region [⟨some 2, .mv (.c (.int .i64 0)), none⟩])
 (.seq (.seq (.region [⟨some 6, .mv (.t 0), none⟩,
   ⟨some 7, .len false (.t 6), none⟩,
   ⟨some 8, .bin .gtr (.t 7) (.c (.int .i64 50)), none⟩])
 (.cond (.t 8)
  (.seq (.region [⟨some 2, .mv (.c (.int .i64 2)), none⟩])
  .ret)
  .skip))
 (.seq (.region [⟨some 3, .mv (.c (.int .i64 (-1))), none⟩])
 (.seq (.seq (.region [⟨some 9, .mv (.t 0), none⟩,
   ⟨some 10, .len false (.t 9), none⟩,
   ⟨some 11, .mv (.c (.int .i64 0)), none⟩])
 (.block 0
  (.loop
   (.seq (.region [⟨some 12, .bin .lss (.t 11) (.t 10), none⟩])
   (.seq (.cond (.t 12)
    .skip
    (.exit 0))
   (.seq (.block 1
    (.seq (.region [⟨some 13, .iaddr 3 (.t 9) (.t 11), none⟩,
      ⟨some 14, .load true 3 (.t 13), none⟩,
      ⟨some 5, .alloc [(.int .i64 0), (.int .i64 0), (.str [])], none⟩,
      ⟨none, .store 3 (.t 5) (.t 14), none⟩])
    (.seq (.seq (.region [⟨some 15, .faddr 0 (.t 5), none⟩,
      ⟨some 16, .load false 1 (.t 15), none⟩,
      ⟨some 17, .mv (.t 3), none⟩,
      ⟨some 18, .bin .leq (.t 16) (.t 17), none⟩,
      ⟨some 19, .mv (.t 18), none⟩,
      ⟨some 20, .faddr 1 (.t 5), some (19, false)⟩,
      ⟨some 21, .load false 1 (.t 20), some (19, false)⟩,
      ⟨some 22, .faddr 0 (.t 5), some (19, false)⟩,
      ⟨some 23, .load false 1 (.t 22), some (19, false)⟩,
      ⟨some 24, .bin .lss (.t 21) (.t 23), some (19, false)⟩,
      ⟨some 25, .pick (.t 19) (.c (.bool true)) (.t 24), none⟩])
    (.cond (.t 25)
     (.seq (.region [⟨some 2, .mv (.c (.int .i64 3)), none⟩])
     .ret)
     .skip))
    (.region [⟨some 26, .faddr 1 (.t 5), none⟩,
      ⟨some 27, .load false 1 (.t 26), none⟩,
      ⟨some 3, .mv (.t 27), none⟩]))))
   (.region [⟨some 28, .bin .add (.t 11) (.c (.int .i64 1)), none⟩,
     ⟨some 11, .mv (.t 28), none⟩])))))))
 (.seq (.region [⟨some 2, .mv (.c (.int .i64 0)), none⟩])
 .ret))))),
 [2]⟩
/-- glossator/anchor.mapOffset -/
def L12 : LFn := ⟨3, 77,
 (.seq (.region [⟨some 6, .mv (.c (.int .i64 0)), none⟩])
 (.seq (.region [⟨some 7, .mv (.c (.int .i64 0)), none⟩])
 (.seq (.seq (.region [⟨some 10, .mv (.t 0), none⟩,
   ⟨some 11, .len false (.t 10), none⟩,
   ⟨some 12, .mv (.c (.int .i64 0)), none⟩])
 (.block 0
  (.loop
   (.seq (.region [⟨some 13, .bin .lss (.t 12) (.t 11), none⟩])
   (.seq (.cond (.t 13)
    .skip
    (.exit 0))
   (.seq (.block 1
    (.seq (.region [⟨some 14, .iaddr 3 (.t 10) (.t 12), none⟩,
      ⟨some 15, .load true 3 (.t 14), none⟩,
      ⟨some 9, .alloc [(.int .i64 0), (.int .i64 0), (.str [])], none⟩,
      ⟨none, .store 3 (.t 9) (.t 15), none⟩])
    (.block 2
     (.seq (.seq (.region [⟨some 20, .faddr 1 (.t 9), none⟩,
       ⟨some 21, .load false 1 (.t 20), none⟩,
       ⟨some 22, .mv (.t 1), none⟩,
       ⟨some 23, .bin .lss (.t 21) (.t 22), none⟩,
       ⟨some 19, .mv (.t 23), none⟩])
     (.cond (.t 19)
      .skip
      (.region [⟨some 24, .faddr 1 (.t 9), none⟩,
        ⟨some 25, .load false 1 (.t 24), none⟩,
        ⟨some 26, .mv (.t 1), none⟩,
        ⟨some 27, .bin .eql (.t 25) (.t 26), none⟩,
        ⟨some 28, .mv (.t 27), none⟩,
        ⟨some 29, .faddr 0 (.t 9), some (28, true)⟩,
        ⟨some 30, .load false 1 (.t 29), some (28, true)⟩,
        ⟨some 31, .mv (.t 1), some (28, true)⟩,
        ⟨some 32, .bin .lss (.t 30) (.t 31), some (28, true)⟩,
        ⟨some 33, .mv (.t 32), some (28, true)⟩,
        ⟨some 34, .mv (.t 2), some (33, false)⟩,
        ⟨some 35, .pick (.t 33) (.c (.bool true)) (.t 34), some (28, true)⟩,
        ⟨some 36, .pick (.t 28) (.t 35) (.c (.bool false)), none⟩,
        ⟨some 19, .mv (.t 36), none⟩])))
     (.cond (.t 19)
      (.region [⟨some 37, .mv (.t 7), none⟩,
        ⟨some 38, .faddr 2 (.t 9), none⟩,
        ⟨some 39, .load false 1 (.t 38), none⟩,
        ⟨some 40, .len true (.t 39), none⟩,
        ⟨some 41, .faddr 1 (.t 9), none⟩,
        ⟨some 42, .load false 1 (.t 41), none⟩,
        ⟨some 43, .faddr 0 (.t 9), none⟩,
        ⟨some 44, .load false 1 (.t 43), none⟩,
        ⟨some 45, .bin .sub (.t 42) (.t 44), none⟩,
        ⟨some 46, .bin .sub (.t 40) (.t 45), none⟩,
        ⟨some 47, .bin .add (.t 37) (.t 46), none⟩,
        ⟨some 7, .mv (.t 47), none⟩])
      (.seq (.region [⟨some 49, .faddr 0 (.t 9), none⟩,
        ⟨some 50, .load false 1 (.t 49), none⟩,
        ⟨some 51, .mv (.t 1), none⟩,
        ⟨some 52, .bin .lss (.t 50) (.t 51), none⟩,
        ⟨some 53, .mv (.t 52), none⟩,
        ⟨some 54, .mv (.t 2), some (53, true)⟩,
        ⟨some 55, .pick (.t 53) (.t 54) (.c (.bool false)), none⟩,
        ⟨some 48, .mv (.t 55), none⟩])
      (.cond (.t 48)
       (.seq (.region [⟨some 56, .faddr 0 (.t 9), none⟩,
         ⟨some 57, .load false 1 (.t 56), none⟩,
         ⟨some 58, .mv (.t 7), none⟩,
         ⟨some 59, .bin .add (.t 57) (.t 58), none⟩,
         ⟨some 60, .faddr 2 (.t 9), none⟩,
         ⟨some 61, .load false 1 (.t 60), none⟩,
         ⟨some 62, .len true (.t 61), none⟩,
         ⟨some 63, .bin .add (.t 59) (.t 62), none⟩,
         ⟨some 6, .mv (.t 63), none⟩])
       .ret)
       (.seq (.region [⟨some 65, .faddr 0 (.t 9), none⟩,
         ⟨some 66, .load false 1 (.t 65), none⟩,
         ⟨some 67, .mv (.t 1), none⟩,
         ⟨some 68, .bin .lss (.t 66) (.t 67), none⟩,
         ⟨some 64, .mv (.t 68), none⟩])
       (.cond (.t 64)
        (.seq (.region [⟨some 69, .faddr 0 (.t 9), none⟩,
          ⟨some 70, .load false 1 (.t 69), none⟩,
          ⟨some 71, .mv (.t 7), none⟩,
          ⟨some 72, .bin .add (.t 70) (.t 71), none⟩,
          ⟨some 6, .mv (.t 72), none⟩])
        .ret)
        (.seq (.region [⟨some 16, .mv (.t 1), none⟩,
          ⟨some 17, .mv (.t 7), none⟩,
          ⟨some 18, .bin .add (.t 16) (.t 17), none⟩,
          ⟨some 6, .mv (.t 18), none⟩])
        .ret))))))))))
   (.region [⟨some 73, .bin .add (.t 12) (.c (.int .i64 1)), none⟩,
     ⟨some 12, .mv (.t 73), none⟩])))))))
 (.seq (.region [⟨some 74, .mv (.t 1), none⟩,
   ⟨some 75, .mv (.t 7), none⟩,
   ⟨some 76, .bin .add (.t 74) (.t 75), none⟩,
   ⟨some 6, .mv (.t 76), none⟩])
 .ret)))),
 [6]⟩
theorem low3 : lowFn Try.prog 3 = some L3 := by kernel_rfl
theorem ok3 : FnOk Try.prog 3 := ⟨_, Try.func3, by kernel_rfl, by kernel_rfl⟩
theorem low4 : lowFn Try.prog 4 = some L4 := by kernel_rfl
theorem ok4 : FnOk Try.prog 4 := ⟨_, Try.func4, by kernel_rfl, by kernel_rfl⟩
theorem low5 : lowFn Try.prog 5 = some L5 := by kernel_rfl
theorem ok5 : FnOk Try.prog 5 := ⟨_, Try.func5, by kernel_rfl, by kernel_rfl⟩
theorem low6 : lowFn Try.prog 6 = some L6 := by kernel_rfl
theorem ok6 : FnOk Try.prog 6 := ⟨_, Try.func6, by kernel_rfl, by kernel_rfl⟩
theorem low7 : lowFn Try.prog 7 = some L7 := by kernel_rfl
theorem ok7 : FnOk Try.prog 7 := ⟨_, Try.func7, by kernel_rfl, by kernel_rfl⟩
theorem low8 : lowFn Try.prog 8 = some L8 := by kernel_rfl
theorem ok8 : FnOk Try.prog 8 := ⟨_, Try.func8, by kernel_rfl, by kernel_rfl⟩
theorem low9 : lowFn Try.prog 9 = some L9 := by kernel_rfl
theorem ok9 : FnOk Try.prog 9 := ⟨_, Try.func9, by kernel_rfl, by kernel_rfl⟩
theorem low10 : lowFn Try.prog 10 = some L10 := by kernel_rfl
theorem ok10 : FnOk Try.prog 10 := ⟨_, Try.func10, by kernel_rfl, by kernel_rfl⟩
theorem low11 : lowFn Try.prog 11 = some L11 := by kernel_rfl
theorem ok11 : FnOk Try.prog 11 := ⟨_, Try.func11, by kernel_rfl, by kernel_rfl⟩
theorem low12 : lowFn Try.prog 12 = some L12 := by kernel_rfl
theorem ok12 : FnOk Try.prog 12 := ⟨_, Try.func12, by kernel_rfl, by kernel_rfl⟩
end Go.Proofs.Ytbpbdpeccjoobaa
