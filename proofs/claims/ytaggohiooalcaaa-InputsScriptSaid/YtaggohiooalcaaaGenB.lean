/-
  Own text GenB of this claim: what functions of the given program compute, in plain Lean, and the proof; no condition.
-/
import Derived.Test.YtaggohiooalcaaaGenA
namespace Go.Proofs.Ytaggohiooalcaaa
open Go.Fx
set_option linter.unusedVariables false

def f3_c8 : LCode := (.seq (.seq (.region [⟨some 90, .mv (.t 16), none⟩,
   ⟨some 91, .mv (.t 17), none⟩,
   ⟨some 92, .bin .neq (.t 90) (.t 91), none⟩,
   ⟨some 93, .mv (.t 92), none⟩,
   ⟨some 94, .mv (.t 15), some (93, false)⟩,
   ⟨some 95, .pick (.t 93) (.c (.bool true)) (.t 94), none⟩])
 (.cond (.t 95)
  (.seq (.region [⟨some 8, .mv (.c (.bool false)), none⟩])
  .ret)
  .skip))
 (.exit 1))
def f3_c9 : LCode := (.region [⟨some 112, .bin .add (.t 98) (.c (.int .i64 1)), none⟩,
   ⟨some 98, .mv (.t 112), none⟩])
def f3_c3 : LCode := (.seq (.region [⟨some 99, .bin .lss (.t 98) (.t 97), none⟩])
 (.seq (.cond (.t 99)
  .skip
  (.exit 2))
 (.seq (.block 3
  (.seq (.region [⟨some 100, .mv (.t 98), none⟩,
    ⟨some 19, .mv (.t 100), none⟩])
  (.seq (.quiet [⟨some 101, .mv (.t 11), none⟩,
    ⟨some 102, .mv (.t 19), none⟩,
    ⟨some 103, .iaddr 7 (.t 101) (.t 102), none⟩,
    ⟨some 104, .faddr 0 (.t 103), none⟩,
    ⟨some 105, .load true 3 (.t 104), none⟩,
    ⟨some 106, .mv (.t 0), none⟩,
    ⟨some 107, .mv (.t 14), none⟩,
    ⟨some 108, .iaddr 3 (.t 106) (.t 107), none⟩,
    ⟨some 109, .load true 3 (.t 108), none⟩,
    ⟨some 110, .eq false (.agg [.int, .int, .int]) (.t 105) (.t 109), none⟩])
  (.cond (.t 110)
   (.region [⟨some 111, .mv (.t 19), none⟩,
     ⟨some 18, .mv (.t 111), none⟩])
   .skip))))
 f3_c9)))
def f3_c10 : LCode := (.region [⟨some 165, .bin .add (.t 150) (.c (.int .i64 1)), none⟩,
   ⟨some 150, .mv (.t 165), none⟩])
def f3_c6 : LCode := (.seq (.region [⟨some 151, .bin .lss (.t 150) (.c (.int .i64 3)), none⟩])
 (.seq (.cond (.t 151)
  .skip
  (.exit 4))
 (.seq (.block 5
  (.seq (.region [⟨some 152, .mv (.t 150), none⟩,
    ⟨some 22, .mv (.t 152), none⟩])
  (.seq (.quiet [⟨some 153, .mv (.t 22), none⟩,
    ⟨some 154, .faddr 3 (.t 20), none⟩,
    ⟨some 155, .load false 1 (.t 154), none⟩,
    ⟨some 156, .mv (.t 2), none⟩,
    ⟨some 157, .mv (.t 14), none⟩,
    ⟨some 158, .iaddr 1 (.t 156) (.t 157), none⟩,
    ⟨some 159, .load false 1 (.t 158), none⟩,
    ⟨some 160, .mnx true [(.t 155), (.t 159)], none⟩,
    ⟨some 161, .bin .leq (.t 153) (.t 160), none⟩])
  (.cond (.t 161)
   (.region [⟨some 162, .mv (.t 22), none⟩,
     ⟨some 163, .mv (.t 12), none⟩,
     ⟨some 164, .iaddrA 3 1 (.t 13) (.t 162), none⟩,
     ⟨none, .store 1 (.t 164) (.t 163), none⟩])
   .skip))))
 f3_c10)))
def f3_c4 : LCode := (.draw [⟨⟨some 166, .mv (.t 11), none⟩, []⟩,
   ⟨⟨some 167, .mv (.t 18), none⟩, []⟩,
   ⟨⟨some 168, .mv (.t 1), none⟩, []⟩,
   ⟨⟨some 169, .mv (.t 14), none⟩, []⟩,
   ⟨⟨some 170, .iaddr 2 (.t 168) (.t 169), none⟩, []⟩,
   ⟨⟨some 171, .load true 2 (.t 170), none⟩, []⟩,
   ⟨⟨some 172, .mv (.t 12), none⟩, []⟩,
   ⟨⟨some 173, .mv (.t 2), none⟩, []⟩,
   ⟨⟨some 174, .mv (.t 14), none⟩, []⟩,
   ⟨⟨some 175, .iaddr 1 (.t 173) (.t 174), none⟩, []⟩,
   ⟨⟨some 176, .load false 1 (.t 175), none⟩, []⟩,
   ⟨⟨some 177, .build [(.isl 1 [] true), (.str []), (.int .i64 0), (.int .i64 0)] [(0, 2, (.t 171)), (2, 1, (.t 172)), (3, 1, (.t 176))], none⟩, []⟩,
   ⟨⟨some 178, .iaddr 7 (.t 166) (.t 167), none⟩, []⟩,
   ⟨⟨some 179, .faddr 3 (.t 178), none⟩, []⟩,
   ⟨⟨none, .store 4 (.t 179) (.t 177), none⟩, []⟩])
def f3_c5 : LCode := (.seq (.region [⟨some 180, .mv (.t 16), none⟩,
   ⟨some 181, .bin .neq (.t 180) (.c (.int .i64 0)), none⟩,
   ⟨some 182, .mv (.t 181), none⟩,
   ⟨some 183, .mv (.t 15), some (182, false)⟩,
   ⟨some 184, .mv (.t 21), some (182, false)⟩,
   ⟨some 185, .eq true .bool (.t 183) (.t 184), some (182, false)⟩,
   ⟨some 186, .pick (.t 182) (.c (.bool true)) (.t 185), none⟩,
   ⟨some 187, .mv (.t 186), none⟩,
   ⟨some 188, .mv (.t 9), some (187, false)⟩,
   ⟨some 189, .call 8 [(.t 188)], some (187, false)⟩,
   ⟨some 190, .mv (.t 12), some (187, false)⟩,
   ⟨some 191, .bin .neq (.t 189) (.t 190), some (187, false)⟩,
   ⟨some 192, .pick (.t 187) (.c (.bool true)) (.t 191), none⟩])
 (.cond (.t 192)
  (.seq (.region [⟨some 8, .mv (.c (.bool false)), none⟩])
  .ret)
  .skip))
def f3_c11 : LCode := (.seq (.region [⟨some 125, .mv (.t 11), none⟩,
   ⟨some 126, .mv (.t 18), none⟩,
   ⟨some 127, .iaddr 7 (.t 125) (.t 126), none⟩,
   ⟨some 128, .faddr 3 (.t 127), none⟩,
   ⟨some 129, .load true 4 (.t 128), none⟩,
   ⟨some 20, .alloc [(.isl 1 [] true), (.str []), (.int .i64 0), (.int .i64 0)], none⟩,
   ⟨none, .store 4 (.t 20) (.t 129), none⟩])
 (.seq (.draw [⟨⟨some 130, .faddr 0 (.t 20), none⟩, []⟩,
   ⟨⟨some 131, .load true 2 (.t 130), none⟩, []⟩,
   ⟨⟨some 132, .mv (.t 1), none⟩, []⟩,
   ⟨⟨some 133, .mv (.t 14), none⟩, []⟩,
   ⟨⟨some 134, .iaddr 2 (.t 132) (.t 133), none⟩, []⟩,
   ⟨⟨some 135, .load true 2 (.t 134), none⟩, []⟩,
   ⟨⟨some 136, .call 7 [(.t 131), (.t 135)], none⟩, []⟩,
   ⟨⟨some 137, .un .not (.t 136), none⟩, []⟩,
   ⟨⟨some 138, .mv (.t 137), none⟩, []⟩,
   ⟨⟨some 139, .faddr 3 (.t 20), some (138, false)⟩, []⟩,
   ⟨⟨some 140, .load false 1 (.t 139), some (138, false)⟩, []⟩,
   ⟨⟨some 141, .mv (.t 2), some (138, false)⟩, []⟩,
   ⟨⟨some 142, .mv (.t 14), some (138, false)⟩, []⟩,
   ⟨⟨some 143, .iaddr 1 (.t 141) (.t 142), some (138, false)⟩, []⟩,
   ⟨⟨some 144, .load false 1 (.t 143), some (138, false)⟩, []⟩,
   ⟨⟨some 145, .bin .neq (.t 140) (.t 144), some (138, false)⟩, []⟩,
   ⟨⟨some 146, .pick (.t 138) (.c (.bool true)) (.t 145), none⟩, []⟩,
   ⟨⟨some 21, .mv (.t 146), none⟩, []⟩])
 (.seq (.seq (.region [⟨some 147, .mv (.t 21), none⟩])
 (.cond (.t 147)
  (.seq (.region [⟨some 148, .mv (.t 12), none⟩,
    ⟨some 149, .bin .add (.t 148) (.c (.int .i64 1)), none⟩,
    ⟨some 12, .mv (.t 149), none⟩])
  (.seq (.seq (.region [⟨some 150, .mv (.c (.int .i64 0)), none⟩])
  (.block 4
   (.loop
    f3_c6)))
  f3_c4))
  .skip))
 f3_c5)))
def f3_c2 : LCode := (.seq (.seq (.region [⟨some 113, .mv (.t 18), none⟩,
   ⟨some 114, .bin .lss (.t 113) (.c (.int .i64 0)), none⟩])
 (.cond (.t 114)
  (.seq (.region [⟨some 115, .mv (.t 11), none⟩,
    ⟨some 116, .len false (.t 115), none⟩,
    ⟨some 18, .mv (.t 116), none⟩])
  (.region [⟨some 117, .mv (.t 11), none⟩,
    ⟨some 118, .mv (.t 0), none⟩,
    ⟨some 119, .mv (.t 14), none⟩,
    ⟨some 120, .iaddr 3 (.t 118) (.t 119), none⟩,
    ⟨some 121, .load true 3 (.t 120), none⟩,
    ⟨some 122, .build [(.int .i64 0), (.int .i64 0), (.int .i64 0), (.isl 1 [] true), (.str []), (.int .i64 0), (.int .i64 0)] [(0, 3, (.t 121))], none⟩,
    ⟨some 123, .mkSl true 7 [(.int .i64 0), (.int .i64 0), (.int .i64 0), (.isl 1 [] true), (.str []), (.int .i64 0), (.int .i64 0)] 1 [(0, (.t 122))], none⟩,
    ⟨some 124, .app false 7 80 (.t 117) (.t 123), none⟩,
    ⟨some 11, .mv (.t 124), none⟩]))
  .skip))
 f3_c11)
def f3_c0 : LCode := (.seq (.region [⟨some 18, .mv (.c (.int .i64 (-1))), none⟩])
 (.seq (.seq (.region [⟨some 96, .mv (.t 11), none⟩,
   ⟨some 97, .len false (.t 96), none⟩,
   ⟨some 98, .mv (.c (.int .i64 0)), none⟩])
 (.block 2
  (.loop
   f3_c3)))
 f3_c2))
def f3_c1 : LCode := (.region [⟨some 193, .bin .add (.t 44) (.c (.int .i64 1)), none⟩,
   ⟨some 44, .mv (.t 193), none⟩])
def f3_c12 : LCode := (.seq (.region [⟨some 45, .bin .lss (.t 44) (.t 43), none⟩])
 (.seq (.cond (.t 45)
  .skip
  (.exit 0))
 (.seq (.block 1
  (.seq (.region [⟨some 46, .mv (.t 44), none⟩,
    ⟨some 14, .mv (.t 46), none⟩])
  (.seq (.draw [⟨⟨some 48, .mv (.t 9), none⟩, []⟩,
    ⟨⟨some 49, .mv (.t 0), none⟩, []⟩,
    ⟨⟨some 50, .mv (.t 14), none⟩, []⟩,
    ⟨⟨some 51, .iaddr 3 (.t 49) (.t 50), none⟩, []⟩,
    ⟨⟨some 52, .load true 3 (.t 51), none⟩, []⟩,
    ⟨⟨some 53, .mv (.t 1), none⟩, []⟩,
    ⟨⟨some 54, .mv (.t 14), none⟩, []⟩,
    ⟨⟨some 55, .iaddr 2 (.t 53) (.t 54), none⟩, []⟩,
    ⟨⟨some 56, .load true 2 (.t 55), none⟩, []⟩,
    ⟨⟨some 57, .mv (.t 2), none⟩, []⟩,
    ⟨⟨some 58, .mv (.t 14), none⟩, []⟩,
    ⟨⟨some 59, .iaddr 1 (.t 57) (.t 58), none⟩, []⟩,
    ⟨⟨some 60, .load false 1 (.t 59), none⟩, []⟩,
    ⟨⟨some 61, .call 6 [(.t 48), (.t 52), (.t 56), (.t 60)], none⟩, []⟩,
    ⟨⟨some 47, .mv (.t 61), none⟩, []⟩,
    ⟨⟨some 62, .ext 0 (.t 47), none⟩, []⟩,
    ⟨⟨some 63, .ext 1 (.t 47), none⟩, []⟩,
    ⟨⟨some 15, .mv (.t 62), none⟩, []⟩,
    ⟨⟨some 16, .mv (.t 63), none⟩, []⟩])
  (.seq (.seq (.region [⟨some 64, .mv (.t 0), none⟩,
    ⟨some 65, .mv (.t 14), none⟩,
    ⟨some 66, .iaddr 3 (.t 64) (.t 65), none⟩,
    ⟨some 67, .faddr 0 (.t 66), none⟩,
    ⟨some 68, .load false 1 (.t 67), none⟩,
    ⟨some 69, .bin .neq (.t 68) (.c (.int .i64 0)), none⟩,
    ⟨some 70, .mv (.t 69), none⟩,
    ⟨some 71, .mv (.t 2), some (70, false)⟩,
    ⟨some 72, .mv (.t 14), some (70, false)⟩,
    ⟨some 73, .iaddr 1 (.t 71) (.t 72), some (70, false)⟩,
    ⟨some 74, .load false 1 (.t 73), some (70, false)⟩,
    ⟨some 75, .bin .lss (.t 74) (.c (.int .i64 0)), some (70, false)⟩,
    ⟨some 76, .pick (.t 70) (.c (.bool true)) (.t 75), none⟩,
    ⟨some 77, .mv (.t 76), none⟩,
    ⟨some 78, .mv (.t 2), some (77, false)⟩,
    ⟨some 79, .mv (.t 14), some (77, false)⟩,
    ⟨some 80, .iaddr 1 (.t 78) (.t 79), some (77, false)⟩,
    ⟨some 81, .load false 1 (.t 80), some (77, false)⟩,
    ⟨some 82, .bin .gtr (.t 81) (.c (.int .i64 2)), some (77, false)⟩,
    ⟨some 83, .pick (.t 77) (.c (.bool true)) (.t 82), none⟩])
  (.cond (.t 83)
   (.seq (.region [⟨some 17, .mv (.c (.int .i64 1)), none⟩])
   (.seq (.seq (.region [⟨some 84, .mv (.t 0), none⟩,
     ⟨some 85, .mv (.t 14), none⟩,
     ⟨some 86, .iaddr 3 (.t 84) (.t 85), none⟩,
     ⟨some 87, .faddr 0 (.t 86), none⟩,
     ⟨some 88, .load false 1 (.t 87), none⟩,
     ⟨some 89, .bin .neq (.t 88) (.c (.int .i64 0)), none⟩])
   (.cond (.t 89)
    (.region [⟨some 17, .mv (.c (.int .i64 7)), none⟩])
    .skip))
   f3_c8))
   .skip))
  f3_c0))))
 f3_c1)))
def f3_c14 : LCode := (.seq (.region [⟨some 197, .bin .lss (.t 196) (.t 195), none⟩])
 (.seq (.cond (.t 197)
  .skip
  (.exit 6))
 (.seq (.block 7
  (.seq (.region [⟨some 198, .iaddr 7 (.t 194) (.t 196), none⟩,
    ⟨some 199, .load true 7 (.t 198), none⟩,
    ⟨some 24, .alloc [(.int .i64 0), (.int .i64 0), (.int .i64 0), (.isl 1 [] true), (.str []), (.int .i64 0), (.int .i64 0)], none⟩,
    ⟨none, .store 7 (.t 24) (.t 199), none⟩])
  (.seq (.region [⟨some 201, .mv (.t 9), none⟩,
    ⟨some 202, .faddr 0 (.t 24), none⟩,
    ⟨some 203, .load true 3 (.t 202), none⟩,
    ⟨some 204, .call 9 [(.t 201), (.t 203)], none⟩,
    ⟨some 200, .mv (.t 204), none⟩,
    ⟨some 205, .ext 0 (.t 200), none⟩,
    ⟨some 206, .ext 1 (.t 200), none⟩,
    ⟨some 207, .ext 2 (.t 200), none⟩,
    ⟨some 25, .alloc [(.isl 1 [] true), (.str [])], none⟩,
    ⟨none, .store 2 (.t 25) (.t 205), none⟩,
    ⟨some 26, .mv (.t 206), none⟩,
    ⟨some 27, .mv (.t 207), none⟩])
  (.seq (.region [⟨some 208, .load true 2 (.t 25), none⟩,
    ⟨some 209, .faddr 3 (.t 24), none⟩,
    ⟨some 210, .faddr 0 (.t 209), none⟩,
    ⟨some 211, .load true 2 (.t 210), none⟩,
    ⟨some 212, .call 7 [(.t 208), (.t 211)], none⟩,
    ⟨some 213, .un .not (.t 212), none⟩,
    ⟨some 214, .mv (.t 213), none⟩,
    ⟨some 215, .mv (.t 26), some (214, false)⟩,
    ⟨some 216, .faddr 3 (.t 24), some (214, false)⟩,
    ⟨some 217, .faddr 2 (.t 216), some (214, false)⟩,
    ⟨some 218, .load false 1 (.t 217), some (214, false)⟩,
    ⟨some 219, .bin .neq (.t 215) (.t 218), some (214, false)⟩,
    ⟨some 220, .pick (.t 214) (.c (.bool true)) (.t 219), none⟩,
    ⟨some 221, .mv (.t 220), none⟩,
    ⟨some 222, .mv (.t 27), some (221, false)⟩,
    ⟨some 223, .faddr 3 (.t 24), some (221, false)⟩,
    ⟨some 224, .faddr 3 (.t 223), some (221, false)⟩,
    ⟨some 225, .load false 1 (.t 224), some (221, false)⟩,
    ⟨some 226, .bin .neq (.t 222) (.t 225), some (221, false)⟩,
    ⟨some 227, .pick (.t 221) (.c (.bool true)) (.t 226), none⟩])
  (.cond (.t 227)
   (.seq (.region [⟨some 8, .mv (.c (.bool false)), none⟩])
   .ret)
   .skip)))))
 (.region [⟨some 228, .bin .add (.t 196) (.c (.int .i64 1)), none⟩,
   ⟨some 196, .mv (.t 228), none⟩]))))
def f3_c15 : LCode := (.seq (.region [⟨some 238, .mv (.t 9), none⟩,
   ⟨some 239, .call 10 [(.t 238)], none⟩,
   ⟨some 29, .mv (.t 239), none⟩])
 (.seq (.region [⟨some 240, .call 4 [], none⟩,
   ⟨some 241, .mv (.t 240), none⟩,
   ⟨some 242, .mv (.t 9), some (241, true)⟩,
   ⟨some 243, .mv (.t 3), some (241, true)⟩,
   ⟨some 244, .call 11 [(.t 242), (.t 243)], some (241, true)⟩,
   ⟨some 245, .mv (.t 28), some (241, true)⟩,
   ⟨some 246, .bin .eql (.t 244) (.t 245), some (241, true)⟩,
   ⟨some 247, .pick (.t 241) (.t 246) (.c (.bool false)), none⟩,
   ⟨some 248, .mv (.t 247), none⟩,
   ⟨some 249, .mv (.t 29), some (248, true)⟩,
   ⟨some 250, .eq true .ptr (.t 249) (.c (.val (.pointer none))), some (248, true)⟩,
   ⟨some 251, .pick (.t 248) (.t 250) (.c (.bool false)), none⟩,
   ⟨some 252, .mv (.t 251), none⟩,
   ⟨some 253, .mv (.t 29), some (252, true)⟩,
   ⟨some 254, .call 8 [(.t 253)], some (252, true)⟩,
   ⟨some 255, .mv (.t 12), some (252, true)⟩,
   ⟨some 256, .bin .eql (.t 254) (.t 255), some (252, true)⟩,
   ⟨some 257, .pick (.t 252) (.t 256) (.c (.bool false)), none⟩,
   ⟨some 258, .mv (.t 257), none⟩,
   ⟨some 259, .mv (.t 29), some (258, true)⟩,
   ⟨some 260, .mv (.t 3), some (258, true)⟩,
   ⟨some 261, .call 11 [(.t 259), (.t 260)], some (258, true)⟩,
   ⟨some 262, .mv (.t 28), some (258, true)⟩,
   ⟨some 263, .bin .eql (.t 261) (.t 262), some (258, true)⟩,
   ⟨some 264, .pick (.t 258) (.t 263) (.c (.bool false)), none⟩,
   ⟨some 8, .mv (.t 264), none⟩])
 .ret))
def f3_c13 : LCode := (.seq (.region [⟨some 28, .mv (.c (.int .i64 0)), none⟩])
 (.seq (.seq (.region [⟨some 229, .mv (.t 3), none⟩,
   ⟨some 230, .bin .geq (.t 229) (.c (.int .i64 0)), none⟩,
   ⟨some 231, .mv (.t 230), none⟩,
   ⟨some 232, .mv (.t 3), some (231, true)⟩,
   ⟨some 233, .bin .leq (.t 232) (.c (.int .i64 2)), some (231, true)⟩,
   ⟨some 234, .pick (.t 231) (.t 233) (.c (.bool false)), none⟩])
 (.cond (.t 234)
  (.region [⟨some 235, .mv (.t 3), none⟩,
    ⟨some 236, .iaddrA 3 1 (.t 13) (.t 235), none⟩,
    ⟨some 237, .load false 1 (.t 236), none⟩,
    ⟨some 28, .mv (.t 237), none⟩])
  .skip))
 f3_c15))
def f3_c7 : LCode := (.seq (.seq (.region [⟨some 194, .mv (.t 11), none⟩,
   ⟨some 195, .len false (.t 194), none⟩,
   ⟨some 196, .mv (.c (.int .i64 0)), none⟩])
 (.block 6
  (.loop
   f3_c14)))
 f3_c13)
def f3_c16 : LCode := (.seq (.region [⟨some 8, .mv (.c (.bool false)), none⟩])
 (.seq (.seq (.region [⟨some 30, .call 4 [], none⟩,
   ⟨some 31, .un .not (.t 30), none⟩])
 (.cond (.t 31)
  (.seq (.region [⟨some 8, .mv (.c (.bool false)), none⟩])
  .ret)
  .skip))
 (.seq (.region [⟨some 32, .call 5 [], none⟩,
   ⟨some 9, .mv (.t 32), none⟩])
 (.seq (.seq (.region [⟨some 33, .mv (.t 9), none⟩,
   ⟨some 34, .eq false .ptr (.t 33) (.c (.val (.pointer none))), none⟩])
 (.cond (.t 34)
  (.seq (.region [⟨some 8, .mv (.c (.bool false)), none⟩])
  .ret)
  .skip))
 (.seq (.region [⟨some 35, .mv (.t 0), none⟩,
   ⟨some 36, .len false (.t 35), none⟩,
   ⟨some 37, .mv (.t 1), none⟩,
   ⟨some 38, .len false (.t 37), none⟩,
   ⟨some 39, .mv (.t 2), none⟩,
   ⟨some 40, .len false (.t 39), none⟩,
   ⟨some 41, .mnx false [(.t 36), (.t 38), (.t 40), (.c (.int .i64 30))], none⟩,
   ⟨some 10, .mv (.t 41), none⟩])
 (.seq (.region [⟨some 11, .mv (.c (.val (.slice none 0 0))), none⟩])
 (.seq (.region [⟨some 42, .build [(.int .i64 0), (.int .i64 0), (.int .i64 0)] [], none⟩,
   ⟨some 13, .alloc [(.int .i64 0), (.int .i64 0), (.int .i64 0)], none⟩,
   ⟨some 12, .mv (.c (.int .i64 0)), none⟩,
   ⟨none, .store 3 (.t 13) (.t 42), none⟩])
 (.seq (.seq (.region [⟨some 43, .mv (.t 10), none⟩,
   ⟨some 44, .mv (.c (.int .i64 0)), none⟩])
 (.block 0
  (.loop
   f3_c12)))
 f3_c7))))))))
def f3_lay : Lay := ⟨265, [124]⟩
def f3_res : List LRes := [.t 8]
def f3_L : LFn := ⟨4, f3_lay, f3_c16, f3_res⟩
theorem f3_low : lowFn Try.prog [124] 3 = some f3_L := by kernel_rfl
theorem f3_fok : FnOk Try.prog 3 := ⟨_, Try.func3, rfl, rfl⟩
def f3_Q (a0 : List G_QKey) (a1 : List G_QValue) (a2 : List Int) (a3 : Int) (o : Bool) : Exit → Env → AHeap → Nat → Prop := FinK f3_res (PureEnd (.bool o))

def f3_L5_env (a0 : List G_QKey) (a1 : List G_QValue) (a2 : List Int) (a3 : Int) (s : (Int × Int × Int × Int × Int × Int × (List G_input) × Int × Int × Int × (List (G_QKey × G_cell)))) : Env := [(0, .isl 3 (a0.map e_QKey) false), (1, .isl 2 (a1.map e_QValue) false), (2, .isl 1 (a2.map e_i64) false), (3, .int .i64 a3), (9, .ptr (0, 0) 0 0), (11, .msl (1, 0) 7 0 s.2.2.2.2.2.2.1.length false), (12, .int .i64 s.1), (13, .ptr (2, 0) 0 0), (43, .int .i64 (if 30 < (if ((a2.map e_i64).length : Int) < (if ((a1.map e_QValue).length : Int) < ((a0.map e_QKey).length : Int) then ((a1.map e_QValue).length : Int) else ((a0.map e_QKey).length : Int)) then ((a2.map e_i64).length : Int) else (if ((a1.map e_QValue).length : Int) < ((a0.map e_QKey).length : Int) then ((a1.map e_QValue).length : Int) else ((a0.map e_QKey).length : Int))) then 30 else (if ((a2.map e_i64).length : Int) < (if ((a1.map e_QValue).length : Int) < ((a0.map e_QKey).length : Int) then ((a1.map e_QValue).length : Int) else ((a0.map e_QKey).length : Int)) then ((a2.map e_i64).length : Int) else (if ((a1.map e_QValue).length : Int) < ((a0.map e_QKey).length : Int) then ((a1.map e_QValue).length : Int) else ((a0.map e_QKey).length : Int))))), (44, .int .i64 s.2.1)]
def f3_L5_hp (a0 : List G_QKey) (a1 : List G_QValue) (a2 : List Int) (a3 : Int) (s : (Int × Int × Int × Int × Int × Int × (List G_input) × Int × Int × Int × (List (G_QKey × G_cell)))) : AHeap := [((0, 0), .one [.int .i64 s.2.2.1, .int .i64 s.2.2.2.1, .int .i64 s.2.2.2.2.1, .int .i64 s.2.2.2.2.2.1, .map (3, 0)]), ((1, 0), .rows 7 (s.2.2.2.2.2.2.1.map e_input)), ((2, 0), .one [.int .i64 s.2.2.2.2.2.2.2.1, .int .i64 s.2.2.2.2.2.2.2.2.1, .int .i64 s.2.2.2.2.2.2.2.2.2.1]), ((3, 0), .amap (s.2.2.2.2.2.2.2.2.2.2.map (em a_QKey a_cell)))]
def f3_L5_Q (a0 : List G_QKey) (a1 : List G_QValue) (a2 : List Int) (a3 : Int) (o : Bool) : Exit → Env → AHeap → Nat → Prop := (QBlock 0 (QSeq Try.prog f3_lay 0 f3_c7 (f3_Q a0 a1 a2 a3 o)))

noncomputable def S_glossatorlaw3_InputsScript_j36 (m : Option Nat) (a0 : List G_QKey) (a1 : List G_QValue) (a2 : List Int) (a3 : Int) (v38 : Int) (v82 : Bool × Int × Int × Int × Int × Int × (List (G_QKey × G_cell))) (v111 : Int) (v112 : List G_input) (v113 : Int) (v114 : Int) (v115 : Int) : Option ((Int × Int × Int × Int × Int × Int × (List G_input) × Int × Int × Int × (List (G_QKey × G_cell))) ⊕ Bool) :=
  some (.inl (v111, (W (v38 + 1)), v82.2.2.1, v82.2.2.2.1, v82.2.2.2.2.1, v82.2.2.2.2.2.1, v112, v113, v114, v115, v82.2.2.2.2.2.2))

noncomputable def S_glossatorlaw3_InputsScript_j25 (m : Option Nat) (a0 : List G_QKey) (a1 : List G_QValue) (a2 : List Int) (a3 : Int) (v37 : Int) (v38 : Int) (v43 : List G_input) (v44 : Int) (v45 : Int) (v46 : Int) (v82 : Bool × Int × Int × Int × Int × Int × (List (G_QKey × G_cell))) (v83 : Int) : Option ((Int × Int × Int × Int × Int × Int × (List G_input) × Int × Int × Int × (List (G_QKey × G_cell))) ⊕ Bool) :=
  if ((v82.2.1 != v83) || v82.1) = true then
    Option.map Sum.inr (
      some false)
  else
    S_glossatorlaw3_InputsScript_j36 m a0 a1 a2 a3 v38 v82 v37 v43 v44 v45 v46

theorem f3_j36_ok {a0 : List G_QKey} {a1 : List G_QValue} {a2 : List Int} {a3 : Int} {v38 : Int} {v82 : Bool × Int × Int × Int × Int × Int × (List (G_QKey × G_cell))} {v111 : Int} {v112 : List G_input} {v113 : Int} {v114 : Int} {v115 : Int} {m : Option Nat} {o : ((Int × Int × Int × Int × Int × Int × (List G_input) × Int × Int × Int × (List (G_QKey × G_cell))) ⊕ Bool)} (h : S_glossatorlaw3_InputsScript_j36 m a0 a1 a2 a3 v38 v82 v111 v112 v113 v114 v115 = some o) :
    LWp Try.prog f3_lay 0 f3_c1 (BodyQ 0 4 (f3_L5_env a0 a1 a2 a3) (f3_L5_hp a0 a1 a2 a3) (f3_L5_Q a0 a1 a2 a3) o) [(0, .isl 3 (a0.map e_QKey) false), (1, .isl 2 (a1.map e_QValue) false), (2, .isl 1 (a2.map e_i64) false), (3, .int .i64 a3), (9, .ptr (0, 0) 0 0), (11, .msl (1, 0) 7 0 v112.length false), (12, .int .i64 v111), (13, .ptr (2, 0) 0 0), (43, .int .i64 (if 30 < (if ((a2.map e_i64).length : Int) < (if ((a1.map e_QValue).length : Int) < ((a0.map e_QKey).length : Int) then ((a1.map e_QValue).length : Int) else ((a0.map e_QKey).length : Int)) then ((a2.map e_i64).length : Int) else (if ((a1.map e_QValue).length : Int) < ((a0.map e_QKey).length : Int) then ((a1.map e_QValue).length : Int) else ((a0.map e_QKey).length : Int))) then 30 else (if ((a2.map e_i64).length : Int) < (if ((a1.map e_QValue).length : Int) < ((a0.map e_QKey).length : Int) then ((a1.map e_QValue).length : Int) else ((a0.map e_QKey).length : Int)) then ((a2.map e_i64).length : Int) else (if ((a1.map e_QValue).length : Int) < ((a0.map e_QKey).length : Int) then ((a1.map e_QValue).length : Int) else ((a0.map e_QKey).length : Int))))), (44, .int .i64 v38)] [((0, 0), .one [.int .i64 v82.2.2.1, .int .i64 v82.2.2.2.1, .int .i64 v82.2.2.2.2.1, .int .i64 v82.2.2.2.2.2.1, .map (3, 0)]), ((1, 0), .rows 7 (v112.map e_input)), ((2, 0), .one [.int .i64 v113, .int .i64 v114, .int .i64 v115]), ((3, 0), .amap (v82.2.2.2.2.2.2.map (em a_QKey a_cell)))] 4 := by
  unfold S_glossatorlaw3_InputsScript_j36 at h
  refine regI ?_
  cases h
  exact And.intro rfl (simI (M := [((0, 0), (0, 0)), ((1, 0), (1, 0)), ((2, 0), (2, 0)), ((3, 0), (3, 0))]) rfl (And.intro (Vw.same _ rfl) (And.intro (Vw.same _ rfl) (And.intro (Vw.same _ rfl) (And.intro (Vw.same _ rfl) (And.intro (Vw.ptr _ _ _ _ rfl) (And.intro (Vw.mslE rfl (by first | rfl | simp) rfl) (And.intro (Vw.same _ rfl) (And.intro (Vw.ptr _ _ _ _ rfl) (And.intro (Vw.same _ rfl) (And.intro (Vw.same _ rfl) trivial)))))))))) (And.intro (And.intro rfl (BVw.oneL (And.intro (Vw.same _ rfl) (And.intro (Vw.same _ rfl) (And.intro (Vw.same _ rfl) (And.intro (Vw.same _ rfl) (And.intro (Vw.map _ _ rfl) trivial))))))) (And.intro (And.intro rfl (BVw.enc e_input (fun _ => rfl) _ v112)) (And.intro (And.intro rfl (BVw.oneL (And.intro (Vw.same _ rfl) (And.intro (Vw.same _ rfl) (And.intro (Vw.same _ rfl) trivial))))) (And.intro (And.intro rfl (BVw.ofMap a_QKey a_cell a_cell_nid v82.2.2.2.2.2.2)) trivial)))))

theorem f3_j25_ok {a0 : List G_QKey} {a1 : List G_QValue} {a2 : List Int} {a3 : Int} {v37 : Int} {v38 : Int} {v43 : List G_input} {v44 : Int} {v45 : Int} {v46 : Int} {v82 : Bool × Int × Int × Int × Int × Int × (List (G_QKey × G_cell))} {v83 : Int} {m : Option Nat} {o : ((Int × Int × Int × Int × Int × Int × (List G_input) × Int × Int × Int × (List (G_QKey × G_cell))) ⊕ Bool)} (h : S_glossatorlaw3_InputsScript_j25 m a0 a1 a2 a3 v37 v38 v43 v44 v45 v46 v82 v83 = some o) :
    LWp Try.prog f3_lay 0 f3_c8 (QSeq Try.prog f3_lay 0 f3_c0 (QBlock 1 (QSeq Try.prog f3_lay 0 f3_c1 (BodyQ 0 4 (f3_L5_env a0 a1 a2 a3) (f3_L5_hp a0 a1 a2 a3) (f3_L5_Q a0 a1 a2 a3) o)))) [(0, .isl 3 (a0.map e_QKey) false), (1, .isl 2 (a1.map e_QValue) false), (2, .isl 1 (a2.map e_i64) false), (3, .int .i64 a3), (9, .ptr (0, 0) 0 0), (11, .msl (1, 0) 7 0 v43.length false), (12, .int .i64 v37), (13, .ptr (2, 0) 0 0), (15, .bool v82.1), (16, .int .i64 v82.2.1), (17, .int .i64 v83), (43, .int .i64 (if 30 < (if ((a2.map e_i64).length : Int) < (if ((a1.map e_QValue).length : Int) < ((a0.map e_QKey).length : Int) then ((a1.map e_QValue).length : Int) else ((a0.map e_QKey).length : Int)) then ((a2.map e_i64).length : Int) else (if ((a1.map e_QValue).length : Int) < ((a0.map e_QKey).length : Int) then ((a1.map e_QValue).length : Int) else ((a0.map e_QKey).length : Int))) then 30 else (if ((a2.map e_i64).length : Int) < (if ((a1.map e_QValue).length : Int) < ((a0.map e_QKey).length : Int) then ((a1.map e_QValue).length : Int) else ((a0.map e_QKey).length : Int)) then ((a2.map e_i64).length : Int) else (if ((a1.map e_QValue).length : Int) < ((a0.map e_QKey).length : Int) then ((a1.map e_QValue).length : Int) else ((a0.map e_QKey).length : Int))))), (44, .int .i64 v38)] [((0, 0), .one [.int .i64 v82.2.2.1, .int .i64 v82.2.2.2.1, .int .i64 v82.2.2.2.2.1, .int .i64 v82.2.2.2.2.2.1, .map (3, 0)]), ((1, 0), .rows 7 (v43.map e_input)), ((2, 0), .one [.int .i64 v44, .int .i64 v45, .int .i64 v46]), ((3, 0), .amap (v82.2.2.2.2.2.2.map (em a_QKey a_cell)))] 4 := by
  unfold S_glossatorlaw3_InputsScript_j25 at h
  refine seqI ?_
  refine seqI ?_
  refine regI ?_
  refine And.intro (fun hc => (bqf hc)) ?_
  show yops _ _ _ [(95, .bool ((v82.2.1 != v83) || v82.1)), (94, .cnd ((v82.2.1 != v83) == false) (.bool v82.1)), (93, .bool (v82.2.1 != v83)), (92, .bool (v82.2.1 != v83)), (91, .int .i64 v83), (90, .int .i64 v82.2.1), (0, .isl 3 (a0.map e_QKey) false), (1, .isl 2 (a1.map e_QValue) false), (2, .isl 1 (a2.map e_i64) false), (3, .int .i64 a3), (9, .ptr (0, 0) 0 0), (11, .msl (1, 0) 7 0 v43.length false), (12, .int .i64 v37), (13, .ptr (2, 0) 0 0), (15, .bool v82.1), (16, .int .i64 v82.2.1), (17, .int .i64 v83), (43, .int .i64 (if 30 < (if ((a2.map e_i64).length : Int) < (if ((a1.map e_QValue).length : Int) < ((a0.map e_QKey).length : Int) then ((a1.map e_QValue).length : Int) else ((a0.map e_QKey).length : Int)) then ((a2.map e_i64).length : Int) else (if ((a1.map e_QValue).length : Int) < ((a0.map e_QKey).length : Int) then ((a1.map e_QValue).length : Int) else ((a0.map e_QKey).length : Int))) then 30 else (if ((a2.map e_i64).length : Int) < (if ((a1.map e_QValue).length : Int) < ((a0.map e_QKey).length : Int) then ((a1.map e_QValue).length : Int) else ((a0.map e_QKey).length : Int)) then ((a2.map e_i64).length : Int) else (if ((a1.map e_QValue).length : Int) < ((a0.map e_QKey).length : Int) then ((a1.map e_QValue).length : Int) else ((a0.map e_QKey).length : Int))))), (44, .int .i64 v38)] _ _
  refine condI (v := ((v82.2.1 != v83) || v82.1)) rfl trivial (fun h123 => ?_) (fun h123 => ?_)
  · have h := ite_tt h123 h
    refine seqI ?_
    refine regI ?_
    refine retI ?_
    obtain ⟨o, hq, rfl⟩ := Option.map_eq_some_iff.1 h
    replace h := hq; clear hq
    refine And.intro nofun ?_
    cases h
    exact And.intro trivial (And.intro rfl (Vw.same _ rfl))
  · have h := ite_ff h123 h
    refine skipI ?_
    refine exitI ?_
    refine LWp.sim ?_ (f3_j36_ok h)
    exact simI (M := [((0, 0), (0, 0)), ((1, 0), (1, 0)), ((2, 0), (2, 0)), ((3, 0), (3, 0))]) rfl (And.intro (Vw.same _ rfl) (And.intro (Vw.same _ rfl) (And.intro (Vw.same _ rfl) (And.intro (Vw.same _ rfl) (And.intro (Vw.ptr _ _ _ _ rfl) (And.intro (Vw.mslE rfl (by first | rfl | simp) rfl) (And.intro (Vw.same _ rfl) (And.intro (Vw.ptr _ _ _ _ rfl) (And.intro (Vw.same _ rfl) (And.intro (Vw.same _ rfl) trivial)))))))))) (And.intro (And.intro rfl (BVw.oneL (And.intro (Vw.same _ rfl) (And.intro (Vw.same _ rfl) (And.intro (Vw.same _ rfl) (And.intro (Vw.same _ rfl) (And.intro (Vw.map _ _ rfl) trivial))))))) (And.intro (And.intro rfl (BVw.enc e_input (fun _ => rfl) _ v43)) (And.intro (And.intro rfl (BVw.oneL (And.intro (Vw.same _ rfl) (And.intro (Vw.same _ rfl) (And.intro (Vw.same _ rfl) trivial))))) (And.intro (And.intro rfl (BVw.ofMap a_QKey a_cell a_cell_nid v82.2.2.2.2.2.2)) trivial))))

def f3_L6_env (a0 : List G_QKey) (a1 : List G_QValue) (a2 : List Int) (a3 : Int) (v37 : Int) (v38 : Int) (v43 : List G_input) (v44 : Int) (v45 : Int) (v46 : Int) (v82 : Bool × Int × Int × Int × Int × Int × (List (G_QKey × G_cell))) (s : (Int × Int)) : Env := [(0, .isl 3 (a0.map e_QKey) false), (1, .isl 2 (a1.map e_QValue) false), (2, .isl 1 (a2.map e_i64) false), (3, .int .i64 a3), (9, .ptr (0, 0) 0 0), (11, .msl (1, 0) 7 0 v43.length false), (12, .int .i64 v37), (13, .ptr (2, 0) 0 0), (14, .int .i64 v38), (15, .bool v82.1), (16, .int .i64 v82.2.1), (18, .int .i64 s.1), (43, .int .i64 (if 30 < (if ((a2.map e_i64).length : Int) < (if ((a1.map e_QValue).length : Int) < ((a0.map e_QKey).length : Int) then ((a1.map e_QValue).length : Int) else ((a0.map e_QKey).length : Int)) then ((a2.map e_i64).length : Int) else (if ((a1.map e_QValue).length : Int) < ((a0.map e_QKey).length : Int) then ((a1.map e_QValue).length : Int) else ((a0.map e_QKey).length : Int))) then 30 else (if ((a2.map e_i64).length : Int) < (if ((a1.map e_QValue).length : Int) < ((a0.map e_QKey).length : Int) then ((a1.map e_QValue).length : Int) else ((a0.map e_QKey).length : Int)) then ((a2.map e_i64).length : Int) else (if ((a1.map e_QValue).length : Int) < ((a0.map e_QKey).length : Int) then ((a1.map e_QValue).length : Int) else ((a0.map e_QKey).length : Int))))), (44, .int .i64 v38), (97, .int .i64 ((v43.length : Nat) : Int)), (98, .int .i64 s.2)]
def f3_L6_hp (a0 : List G_QKey) (a1 : List G_QValue) (a2 : List Int) (a3 : Int) (v37 : Int) (v38 : Int) (v43 : List G_input) (v44 : Int) (v45 : Int) (v46 : Int) (v82 : Bool × Int × Int × Int × Int × Int × (List (G_QKey × G_cell))) (s : (Int × Int)) : AHeap := [((0, 0), .one [.int .i64 v82.2.2.1, .int .i64 v82.2.2.2.1, .int .i64 v82.2.2.2.2.1, .int .i64 v82.2.2.2.2.2.1, .map (3, 0)]), ((1, 0), .rows 7 (v43.map e_input)), ((2, 0), .one [.int .i64 v44, .int .i64 v45, .int .i64 v46]), ((3, 0), .amap (v82.2.2.2.2.2.2.map (em a_QKey a_cell)))]
def f3_L6_Q (a0 : List G_QKey) (a1 : List G_QValue) (a2 : List Int) (a3 : Int) (o : ((Int × Int × Int × Int × Int × Int × (List G_input) × Int × Int × Int × (List (G_QKey × G_cell))) ⊕ Bool)) : Exit → Env → AHeap → Nat → Prop := (QBlock 2 (QSeq Try.prog f3_lay 0 f3_c2 (QBlock 1 (QSeq Try.prog f3_lay 0 f3_c1 (BodyQ 0 4 (f3_L5_env a0 a1 a2 a3) (f3_L5_hp a0 a1 a2 a3) (f3_L5_Q a0 a1 a2 a3) o)))))

noncomputable def S_glossatorlaw3_InputsScript_j28 (m : Option Nat) (a0 : List G_QKey) (a1 : List G_QValue) (a2 : List Int) (a3 : Int) (v37 : Int) (v38 : Int) (v43 : List G_input) (v44 : Int) (v45 : Int) (v46 : Int) (v82 : Bool × Int × Int × Int × Int × Int × (List (G_QKey × G_cell))) (v86 : Int) (v88 : Int) : Option ((Int × Int) ⊕ ((Int × Int × Int × Int × Int × Int × (List G_input) × Int × Int × Int × (List (G_QKey × G_cell))) ⊕ Bool)) :=
  some (.inl (v88, (W (v86 + 1))))

theorem f3_j28_ok {a0 : List G_QKey} {a1 : List G_QValue} {a2 : List Int} {a3 : Int} {v37 : Int} {v38 : Int} {v43 : List G_input} {v44 : Int} {v45 : Int} {v46 : Int} {v82 : Bool × Int × Int × Int × Int × Int × (List (G_QKey × G_cell))} {v86 : Int} {v88 : Int} {m : Option Nat} {o : ((Int × Int) ⊕ ((Int × Int × Int × Int × Int × Int × (List G_input) × Int × Int × Int × (List (G_QKey × G_cell))) ⊕ Bool))} (h : S_glossatorlaw3_InputsScript_j28 m a0 a1 a2 a3 v37 v38 v43 v44 v45 v46 v82 v86 v88 = some o) :
    LWp Try.prog f3_lay 0 f3_c9 (BodyQ 0 4 (f3_L6_env a0 a1 a2 a3 v37 v38 v43 v44 v45 v46 v82) (f3_L6_hp a0 a1 a2 a3 v37 v38 v43 v44 v45 v46 v82) (f3_L6_Q a0 a1 a2 a3) o) [(0, .isl 3 (a0.map e_QKey) false), (1, .isl 2 (a1.map e_QValue) false), (2, .isl 1 (a2.map e_i64) false), (3, .int .i64 a3), (9, .ptr (0, 0) 0 0), (11, .msl (1, 0) 7 0 v43.length false), (12, .int .i64 v37), (13, .ptr (2, 0) 0 0), (14, .int .i64 v38), (15, .bool v82.1), (16, .int .i64 v82.2.1), (18, .int .i64 v88), (43, .int .i64 (if 30 < (if ((a2.map e_i64).length : Int) < (if ((a1.map e_QValue).length : Int) < ((a0.map e_QKey).length : Int) then ((a1.map e_QValue).length : Int) else ((a0.map e_QKey).length : Int)) then ((a2.map e_i64).length : Int) else (if ((a1.map e_QValue).length : Int) < ((a0.map e_QKey).length : Int) then ((a1.map e_QValue).length : Int) else ((a0.map e_QKey).length : Int))) then 30 else (if ((a2.map e_i64).length : Int) < (if ((a1.map e_QValue).length : Int) < ((a0.map e_QKey).length : Int) then ((a1.map e_QValue).length : Int) else ((a0.map e_QKey).length : Int)) then ((a2.map e_i64).length : Int) else (if ((a1.map e_QValue).length : Int) < ((a0.map e_QKey).length : Int) then ((a1.map e_QValue).length : Int) else ((a0.map e_QKey).length : Int))))), (44, .int .i64 v38), (97, .int .i64 ((v43.length : Nat) : Int)), (98, .int .i64 v86)] [((0, 0), .one [.int .i64 v82.2.2.1, .int .i64 v82.2.2.2.1, .int .i64 v82.2.2.2.2.1, .int .i64 v82.2.2.2.2.2.1, .map (3, 0)]), ((1, 0), .rows 7 (v43.map e_input)), ((2, 0), .one [.int .i64 v44, .int .i64 v45, .int .i64 v46]), ((3, 0), .amap (v82.2.2.2.2.2.2.map (em a_QKey a_cell)))] 4 := by
  unfold S_glossatorlaw3_InputsScript_j28 at h
  refine regI ?_
  cases h
  exact And.intro rfl (simI (M := [((0, 0), (0, 0)), ((1, 0), (1, 0)), ((2, 0), (2, 0)), ((3, 0), (3, 0))]) rfl (And.intro (Vw.same _ rfl) (And.intro (Vw.same _ rfl) (And.intro (Vw.same _ rfl) (And.intro (Vw.same _ rfl) (And.intro (Vw.ptr _ _ _ _ rfl) (And.intro (Vw.mslE rfl (by first | rfl | simp) rfl) (And.intro (Vw.same _ rfl) (And.intro (Vw.ptr _ _ _ _ rfl) (And.intro (Vw.same _ rfl) (And.intro (Vw.same _ rfl) (And.intro (Vw.same _ rfl) (And.intro (Vw.same _ rfl) (And.intro (Vw.same _ rfl) (And.intro (Vw.same _ rfl) (And.intro (Vw.same _ rfl) (And.intro (Vw.same _ rfl) trivial)))))))))))))))) (And.intro (And.intro rfl (BVw.oneL (And.intro (Vw.same _ rfl) (And.intro (Vw.same _ rfl) (And.intro (Vw.same _ rfl) (And.intro (Vw.same _ rfl) (And.intro (Vw.map _ _ rfl) trivial))))))) (And.intro (And.intro rfl (BVw.enc e_input (fun _ => rfl) _ v43)) (And.intro (And.intro rfl (BVw.oneL (And.intro (Vw.same _ rfl) (And.intro (Vw.same _ rfl) (And.intro (Vw.same _ rfl) trivial))))) (And.intro (And.intro rfl (BVw.ofMap a_QKey a_cell a_cell_nid v82.2.2.2.2.2.2)) trivial)))))

noncomputable def S_glossatorlaw3_InputsScript_j33 (m : Option Nat) (a0 : List G_QKey) (a1 : List G_QValue) (a2 : List Int) (a3 : Int) (v37 : Int) (v38 : Int) (v82 : Bool × Int × Int × Int × Int × Int × (List (G_QKey × G_cell))) (v89 : Int) (v90 : List G_input) (v91 : Bool) (v95 : Int) (v102 : Int) (v103 : Int) (v104 : Int) : Option ((Int × Int × Int × Int) ⊕ ((Int × Int × Int × Int × Int × Int × (List G_input) × Int × Int × Int × (List (G_QKey × G_cell))) ⊕ Bool)) :=
  some (.inl ((W (v95 + 1)), v102, v103, v104))

noncomputable def S_glossatorlaw3_InputsScript_j35 (m : Option Nat) (a0 : List G_QKey) (a1 : List G_QValue) (a2 : List Int) (a3 : Int) (v38 : Int) (v82 : Bool × Int × Int × Int × Int × Int × (List (G_QKey × G_cell))) (v89 : Int) (v90 : List G_input) (v91 : Bool) (v105 : Int) (v106 : List G_input) (v107 : Int) (v108 : Int) (v109 : Int) : Option ((Int × Int × Int × Int × Int × Int × (List G_input) × Int × Int × Int × (List (G_QKey × G_cell))) ⊕ Bool) :=
  (if (((v82.2.1 != 0) || (!(v82.1 == ((!v91) || (((v90.getD (0 + v89.toNat) default).f_last).f_Durability != (a2.getD v38.toNat default)))))) == false) = true then S_inputs_Store_Revision m v82.2.2.1 v82.2.2.2.1 v82.2.2.2.2.1 v82.2.2.2.2.2.1 v82.2.2.2.2.2.2 else some default).bind fun v110 =>
  if (((v82.2.1 != 0) || (!(v82.1 == ((!v91) || (((v90.getD (0 + v89.toNat) default).f_last).f_Durability != (a2.getD v38.toNat default)))))) || (v110 != v105)) = true then
    Option.map Sum.inr (
      some false)
  else
    S_glossatorlaw3_InputsScript_j36 m a0 a1 a2 a3 v38 v82 v105 v106 v107 v108 v109

noncomputable def S_glossatorlaw3_InputsScript_j34 (m : Option Nat) (a0 : List G_QKey) (a1 : List G_QValue) (a2 : List Int) (a3 : Int) (v37 : Int) (v38 : Int) (v82 : Bool × Int × Int × Int × Int × Int × (List (G_QKey × G_cell))) (v89 : Int) (v90 : List G_input) (v91 : Bool) (v96 : Int) (v97 : Int) (v98 : Int) : Option ((Int × Int × Int × Int × Int × Int × (List G_input) × Int × Int × Int × (List (G_QKey × G_cell))) ⊕ Bool) :=
  if (0 : Int) ≤ v38 ∧ v38 < ((a1.map e_QValue).length : Int) then
  if (0 : Int) ≤ v38 ∧ v38 < ((a2.map e_i64).length : Int) then
  if (0 : Int) ≤ v89 ∧ v89 < ((v90.length : Nat) : Int) then
  if (0 + v89.toNat) < v90.length then
  S_glossatorlaw3_InputsScript_j35 m a0 a1 a2 a3 v38 v82 v89 v90 v91 (W (v37 + 1)) (v90.set (0 + v89.toNat) (G_input.mk (G_QKey.mk (((v90.getD (0 + v89.toNat) default).f_key).f_Kind) (((v90.getD (0 + v89.toNat) default).f_key).f_A) (((v90.getD (0 + v89.toNat) default).f_key).f_B)) (G_Input.mk (G_QValue.mk ((a1.getD v38.toNat default).f_Nums) ((a1.getD v38.toNat default).f_Text)) (W (v37 + 1)) (a2.getD v38.toNat default)))) v96 v97 v98
  else none
  else none
  else none
  else none

noncomputable def S_glossatorlaw3_InputsScript_b7 (m : Option Nat) (a0 : List G_QKey) (a1 : List G_QValue) (a2 : List Int) (a3 : Int) (v37 : Int) (v38 : Int) (v82 : Bool × Int × Int × Int × Int × Int × (List (G_QKey × G_cell))) (v89 : Int) (v90 : List G_input) (v91 : Bool) (v95 : Int) (v96 : Int) (v97 : Int) (v98 : Int) : Option ((Int × Int × Int × Int) ⊕ ((Int × Int × Int × Int × Int × Int × (List G_input) × Int × Int × Int × (List (G_QKey × G_cell))) ⊕ Bool)) :=
  if (decide (v95 < 3)) = true then
    if (0 : Int) ≤ v38 ∧ v38 < ((a2.map e_i64).length : Int) then
    if (decide (v95 ≤ (if (a2.getD v38.toNat default) > ((v90.getD (0 + v89.toNat) default).f_last).f_Durability then (a2.getD v38.toNat default) else ((v90.getD (0 + v89.toNat) default).f_last).f_Durability))) = true then
      if (0 : Int) ≤ v95 ∧ v95 < 3 then
      if (v95 == 0) = true then
        S_glossatorlaw3_InputsScript_j33 m a0 a1 a2 a3 v37 v38 v82 v89 v90 v91 v95 (W (v37 + 1)) v97 v98
      else
        if (v95 == 1) = true then
          S_glossatorlaw3_InputsScript_j33 m a0 a1 a2 a3 v37 v38 v82 v89 v90 v91 v95 v96 (W (v37 + 1)) v98
        else
          S_glossatorlaw3_InputsScript_j33 m a0 a1 a2 a3 v37 v38 v82 v89 v90 v91 v95 v96 v97 (W (v37 + 1))
      else none
    else
      S_glossatorlaw3_InputsScript_j33 m a0 a1 a2 a3 v37 v38 v82 v89 v90 v91 v95 v96 v97 v98
    else none
  else
    Option.map Sum.inr (
      S_glossatorlaw3_InputsScript_j34 m a0 a1 a2 a3 v37 v38 v82 v89 v90 v91 v96 v97 v98)

noncomputable def S_glossatorlaw3_InputsScript_l7 (m : Option Nat) (a0 : List G_QKey) (a1 : List G_QValue) (a2 : List Int) (a3 : Int) (v37 : Int) (v38 : Int) (v82 : Bool × Int × Int × Int × Int × Int × (List (G_QKey × G_cell))) (v89 : Int) (v90 : List G_input) (v91 : Bool) (v95 : Int) (v96 : Int) (v97 : Int) (v98 : Int) : Option ((Int × Int × Int × Int × Int × Int × (List G_input) × Int × Int × Int × (List (G_QKey × G_cell))) ⊕ Bool) := loopM m (fun (s : (Int × Int × Int × Int)) => S_glossatorlaw3_InputsScript_b7 m a0 a1 a2 a3 v37 v38 v82 v89 v90 v91 s.1 s.2.1 s.2.2.1 s.2.2.2) (v95, v96, v97, v98)

noncomputable def S_glossatorlaw3_InputsScript_j30 (m : Option Nat) (a0 : List G_QKey) (a1 : List G_QValue) (a2 : List Int) (a3 : Int) (v37 : Int) (v38 : Int) (v44 : Int) (v45 : Int) (v46 : Int) (v82 : Bool × Int × Int × Int × Int × Int × (List (G_QKey × G_cell))) (v89 : Int) (v90 : List G_input) : Option ((Int × Int × Int × Int × Int × Int × (List G_input) × Int × Int × Int × (List (G_QKey × G_cell))) ⊕ Bool) :=
  if (0 : Int) ≤ v89 ∧ v89 < ((v90.length : Nat) : Int) then
  if (0 + v89.toNat) < v90.length then
  if (0 : Int) ≤ v38 ∧ v38 < ((a1.map e_QValue).length : Int) then
  (S_glossatorref3_EqualValues m (G_QValue.mk ((((v90.getD (0 + v89.toNat) default).f_last).f_Value).f_Nums) ((((v90.getD (0 + v89.toNat) default).f_last).f_Value).f_Text)) (G_QValue.mk ((a1.getD v38.toNat default).f_Nums) ((a1.getD v38.toNat default).f_Text))).bind fun v91 =>
  if (((!v91) == false) = true → (0 : Int) ≤ v38 ∧ v38 < ((a2.map e_i64).length : Int)) then
  if ((!v91) || (((v90.getD (0 + v89.toNat) default).f_last).f_Durability != (a2.getD v38.toNat default))) = true then
    S_glossatorlaw3_InputsScript_l7 m a0 a1 a2 a3 v37 v38 v82 v89 v90 v91 0 v44 v45 v46
  else
    S_glossatorlaw3_InputsScript_j35 m a0 a1 a2 a3 v38 v82 v89 v90 v91 v37 v90 v44 v45 v46
  else none
  else none
  else none
  else none

noncomputable def S_glossatorlaw3_InputsScript_j29 (m : Option Nat) (a0 : List G_QKey) (a1 : List G_QValue) (a2 : List Int) (a3 : Int) (v37 : Int) (v38 : Int) (v43 : List G_input) (v44 : Int) (v45 : Int) (v46 : Int) (v82 : Bool × Int × Int × Int × Int × Int × (List (G_QKey × G_cell))) (v85 : Int) : Option ((Int × Int × Int × Int × Int × Int × (List G_input) × Int × Int × Int × (List (G_QKey × G_cell))) ⊕ Bool) :=
  if (decide (v85 < 0)) = true then
    if (0 : Int) ≤ v38 ∧ v38 < ((a0.map e_QKey).length : Int) then
    if ((v43 ++ ([(G_input.mk (G_QKey.mk ((a0.getD v38.toNat default).f_Kind) ((a0.getD v38.toNat default).f_A) ((a0.getD v38.toNat default).f_B)) (G_Input.mk (G_QValue.mk ([] : List Int) ([] : List UInt8)) 0 0))] : List G_input)).map e_input).length * 80 ≤ 140737488355328 then
    S_glossatorlaw3_InputsScript_j30 m a0 a1 a2 a3 v37 v38 v44 v45 v46 v82 ((v43.length : Nat) : Int) (v43 ++ ([(G_input.mk (G_QKey.mk ((a0.getD v38.toNat default).f_Kind) ((a0.getD v38.toNat default).f_A) ((a0.getD v38.toNat default).f_B)) (G_Input.mk (G_QValue.mk ([] : List Int) ([] : List UInt8)) 0 0))] : List G_input))
    else none
    else none
  else
    S_glossatorlaw3_InputsScript_j30 m a0 a1 a2 a3 v37 v38 v44 v45 v46 v82 v85 v43

noncomputable def S_glossatorlaw3_InputsScript_b6 (m : Option Nat) (a0 : List G_QKey) (a1 : List G_QValue) (a2 : List Int) (a3 : Int) (v37 : Int) (v38 : Int) (v43 : List G_input) (v44 : Int) (v45 : Int) (v46 : Int) (v82 : Bool × Int × Int × Int × Int × Int × (List (G_QKey × G_cell))) (v85 : Int) (v86 : Int) : Option ((Int × Int) ⊕ ((Int × Int × Int × Int × Int × Int × (List G_input) × Int × Int × Int × (List (G_QKey × G_cell))) ⊕ Bool)) :=
  if (decide (v86 < ((v43.length : Nat) : Int))) = true then
    if (0 : Int) ≤ v86 ∧ v86 < ((v43.length : Nat) : Int) then
    if (0 + v86.toNat) < v43.length then
    if (0 : Int) ≤ v38 ∧ v38 < ((a0.map e_QKey).length : Int) then
    if ((((v43.getD (0 + v86.toNat) default).f_key).f_Kind == (a0.getD v38.toNat default).f_Kind) && ((((v43.getD (0 + v86.toNat) default).f_key).f_A == (a0.getD v38.toNat default).f_A) && ((((v43.getD (0 + v86.toNat) default).f_key).f_B == (a0.getD v38.toNat default).f_B) && true))) = true then
      S_glossatorlaw3_InputsScript_j28 m a0 a1 a2 a3 v37 v38 v43 v44 v45 v46 v82 v86 v86
    else
      S_glossatorlaw3_InputsScript_j28 m a0 a1 a2 a3 v37 v38 v43 v44 v45 v46 v82 v86 v85
    else none
    else none
    else none
  else
    Option.map Sum.inr (
      S_glossatorlaw3_InputsScript_j29 m a0 a1 a2 a3 v37 v38 v43 v44 v45 v46 v82 v85)

noncomputable def S_glossatorlaw3_InputsScript_l6 (m : Option Nat) (a0 : List G_QKey) (a1 : List G_QValue) (a2 : List Int) (a3 : Int) (v37 : Int) (v38 : Int) (v43 : List G_input) (v44 : Int) (v45 : Int) (v46 : Int) (v82 : Bool × Int × Int × Int × Int × Int × (List (G_QKey × G_cell))) (v85 : Int) (v86 : Int) : Option ((Int × Int × Int × Int × Int × Int × (List G_input) × Int × Int × Int × (List (G_QKey × G_cell))) ⊕ Bool) := loopM m (fun (s : (Int × Int)) => S_glossatorlaw3_InputsScript_b6 m a0 a1 a2 a3 v37 v38 v43 v44 v45 v46 v82 s.1 s.2) (v85, v86)

def f3_L7_env (a0 : List G_QKey) (a1 : List G_QValue) (a2 : List Int) (a3 : Int) (v37 : Int) (v38 : Int) (v82 : Bool × Int × Int × Int × Int × Int × (List (G_QKey × G_cell))) (v89 : Int) (v90 : List G_input) (v91 : Bool) (s : (Int × Int × Int × Int)) : Env := [(0, .isl 3 (a0.map e_QKey) false), (1, .isl 2 (a1.map e_QValue) false), (2, .isl 1 (a2.map e_i64) false), (3, .int .i64 a3), (9, .ptr (0, 0) 0 0), (11, .msl (1, 0) 7 0 v90.length false), (12, .int .i64 (W (v37 + 1))), (13, .ptr (2, 0) 0 0), (14, .int .i64 v38), (15, .bool v82.1), (16, .int .i64 v82.2.1), (18, .int .i64 v89), (20, .ptr (3, 0) 0 0), (21, .bool ((!v91) || (((v90.getD (0 + v89.toNat) default).f_last).f_Durability != (a2.getD v38.toNat default)))), (43, .int .i64 (if 30 < (if ((a2.map e_i64).length : Int) < (if ((a1.map e_QValue).length : Int) < ((a0.map e_QKey).length : Int) then ((a1.map e_QValue).length : Int) else ((a0.map e_QKey).length : Int)) then ((a2.map e_i64).length : Int) else (if ((a1.map e_QValue).length : Int) < ((a0.map e_QKey).length : Int) then ((a1.map e_QValue).length : Int) else ((a0.map e_QKey).length : Int))) then 30 else (if ((a2.map e_i64).length : Int) < (if ((a1.map e_QValue).length : Int) < ((a0.map e_QKey).length : Int) then ((a1.map e_QValue).length : Int) else ((a0.map e_QKey).length : Int)) then ((a2.map e_i64).length : Int) else (if ((a1.map e_QValue).length : Int) < ((a0.map e_QKey).length : Int) then ((a1.map e_QValue).length : Int) else ((a0.map e_QKey).length : Int))))), (44, .int .i64 v38), (150, .int .i64 s.1)]
def f3_L7_hp (a0 : List G_QKey) (a1 : List G_QValue) (a2 : List Int) (a3 : Int) (v37 : Int) (v38 : Int) (v82 : Bool × Int × Int × Int × Int × Int × (List (G_QKey × G_cell))) (v89 : Int) (v90 : List G_input) (v91 : Bool) (s : (Int × Int × Int × Int)) : AHeap := [((0, 0), .one [.int .i64 v82.2.2.1, .int .i64 v82.2.2.2.1, .int .i64 v82.2.2.2.2.1, .int .i64 v82.2.2.2.2.2.1, .map (4, 0)]), ((1, 0), .rows 7 (v90.map e_input)), ((2, 0), .one [.int .i64 s.2.1, .int .i64 s.2.2.1, .int .i64 s.2.2.2]), ((3, 0), .one [.isl 1 (((((v90.getD (0 + v89.toNat) default).f_last).f_Value).f_Nums).map e_i64) false, .str ((((v90.getD (0 + v89.toNat) default).f_last).f_Value).f_Text), .int .i64 (((v90.getD (0 + v89.toNat) default).f_last).f_Changed), .int .i64 (((v90.getD (0 + v89.toNat) default).f_last).f_Durability)]), ((4, 0), .amap (v82.2.2.2.2.2.2.map (em a_QKey a_cell)))]
def f3_L7_Q (a0 : List G_QKey) (a1 : List G_QValue) (a2 : List Int) (a3 : Int) (o : ((Int × Int × Int × Int × Int × Int × (List G_input) × Int × Int × Int × (List (G_QKey × G_cell))) ⊕ Bool)) : Exit → Env → AHeap → Nat → Prop := (QBlock 4 (QSeq Try.prog f3_lay 0 f3_c4 (QSeq Try.prog f3_lay 0 f3_c5 (QBlock 1 (QSeq Try.prog f3_lay 0 f3_c1 (BodyQ 0 4 (f3_L5_env a0 a1 a2 a3) (f3_L5_hp a0 a1 a2 a3) (f3_L5_Q a0 a1 a2 a3) o))))))

theorem f3_j33_ok {a0 : List G_QKey} {a1 : List G_QValue} {a2 : List Int} {a3 : Int} {v37 : Int} {v38 : Int} {v82 : Bool × Int × Int × Int × Int × Int × (List (G_QKey × G_cell))} {v89 : Int} {v90 : List G_input} {v91 : Bool} {v95 : Int} {v102 : Int} {v103 : Int} {v104 : Int} {m : Option Nat} {o : ((Int × Int × Int × Int) ⊕ ((Int × Int × Int × Int × Int × Int × (List G_input) × Int × Int × Int × (List (G_QKey × G_cell))) ⊕ Bool))} (h : S_glossatorlaw3_InputsScript_j33 m a0 a1 a2 a3 v37 v38 v82 v89 v90 v91 v95 v102 v103 v104 = some o) :
    LWp Try.prog f3_lay 0 f3_c10 (BodyQ 0 5 (f3_L7_env a0 a1 a2 a3 v37 v38 v82 v89 v90 v91) (f3_L7_hp a0 a1 a2 a3 v37 v38 v82 v89 v90 v91) (f3_L7_Q a0 a1 a2 a3) o) [(0, .isl 3 (a0.map e_QKey) false), (1, .isl 2 (a1.map e_QValue) false), (2, .isl 1 (a2.map e_i64) false), (3, .int .i64 a3), (9, .ptr (0, 0) 0 0), (11, .msl (1, 0) 7 0 v90.length false), (12, .int .i64 (W (v37 + 1))), (13, .ptr (2, 0) 0 0), (14, .int .i64 v38), (15, .bool v82.1), (16, .int .i64 v82.2.1), (18, .int .i64 v89), (20, .ptr (3, 0) 0 0), (21, .bool ((!v91) || (((v90.getD (0 + v89.toNat) default).f_last).f_Durability != (a2.getD v38.toNat default)))), (43, .int .i64 (if 30 < (if ((a2.map e_i64).length : Int) < (if ((a1.map e_QValue).length : Int) < ((a0.map e_QKey).length : Int) then ((a1.map e_QValue).length : Int) else ((a0.map e_QKey).length : Int)) then ((a2.map e_i64).length : Int) else (if ((a1.map e_QValue).length : Int) < ((a0.map e_QKey).length : Int) then ((a1.map e_QValue).length : Int) else ((a0.map e_QKey).length : Int))) then 30 else (if ((a2.map e_i64).length : Int) < (if ((a1.map e_QValue).length : Int) < ((a0.map e_QKey).length : Int) then ((a1.map e_QValue).length : Int) else ((a0.map e_QKey).length : Int)) then ((a2.map e_i64).length : Int) else (if ((a1.map e_QValue).length : Int) < ((a0.map e_QKey).length : Int) then ((a1.map e_QValue).length : Int) else ((a0.map e_QKey).length : Int))))), (44, .int .i64 v38), (150, .int .i64 v95)] [((0, 0), .one [.int .i64 v82.2.2.1, .int .i64 v82.2.2.2.1, .int .i64 v82.2.2.2.2.1, .int .i64 v82.2.2.2.2.2.1, .map (4, 0)]), ((1, 0), .rows 7 (v90.map e_input)), ((2, 0), .one [.int .i64 v102, .int .i64 v103, .int .i64 v104]), ((3, 0), .one [.isl 1 (((((v90.getD (0 + v89.toNat) default).f_last).f_Value).f_Nums).map e_i64) false, .str ((((v90.getD (0 + v89.toNat) default).f_last).f_Value).f_Text), .int .i64 (((v90.getD (0 + v89.toNat) default).f_last).f_Changed), .int .i64 (((v90.getD (0 + v89.toNat) default).f_last).f_Durability)]), ((4, 0), .amap (v82.2.2.2.2.2.2.map (em a_QKey a_cell)))] 5 := by
  unfold S_glossatorlaw3_InputsScript_j33 at h
  refine regI ?_
  cases h
  exact And.intro rfl (simI (M := [((0, 0), (0, 0)), ((1, 0), (1, 0)), ((2, 0), (2, 0)), ((3, 0), (3, 0)), ((4, 0), (4, 0))]) rfl (And.intro (Vw.same _ rfl) (And.intro (Vw.same _ rfl) (And.intro (Vw.same _ rfl) (And.intro (Vw.same _ rfl) (And.intro (Vw.ptr _ _ _ _ rfl) (And.intro (Vw.mslE rfl (by first | rfl | simp) rfl) (And.intro (Vw.same _ rfl) (And.intro (Vw.ptr _ _ _ _ rfl) (And.intro (Vw.same _ rfl) (And.intro (Vw.same _ rfl) (And.intro (Vw.same _ rfl) (And.intro (Vw.same _ rfl) (And.intro (Vw.ptr _ _ _ _ rfl) (And.intro (Vw.same _ rfl) (And.intro (Vw.same _ rfl) (And.intro (Vw.same _ rfl) (And.intro (Vw.same _ rfl) trivial))))))))))))))))) (And.intro (And.intro rfl (BVw.oneL (And.intro (Vw.same _ rfl) (And.intro (Vw.same _ rfl) (And.intro (Vw.same _ rfl) (And.intro (Vw.same _ rfl) (And.intro (Vw.map _ _ rfl) trivial))))))) (And.intro (And.intro rfl (BVw.enc e_input (fun _ => rfl) _ v90)) (And.intro (And.intro rfl (BVw.oneL (And.intro (Vw.same _ rfl) (And.intro (Vw.same _ rfl) (And.intro (Vw.same _ rfl) trivial))))) (And.intro (And.intro rfl (BVw.oneL (And.intro (Vw.same _ rfl) (And.intro (Vw.same _ rfl) (And.intro (Vw.same _ rfl) (And.intro (Vw.same _ rfl) trivial)))))) (And.intro (And.intro rfl (BVw.ofMap a_QKey a_cell a_cell_nid v82.2.2.2.2.2.2)) trivial))))))

theorem f3_j35_ok {a0 : List G_QKey} {a1 : List G_QValue} {a2 : List Int} {a3 : Int} {v38 : Int} {v82 : Bool × Int × Int × Int × Int × Int × (List (G_QKey × G_cell))} {v89 : Int} {v90 : List G_input} {v91 : Bool} {v105 : Int} {v106 : List G_input} {v107 : Int} {v108 : Int} {v109 : Int} {m : Option Nat} {o : ((Int × Int × Int × Int × Int × Int × (List G_input) × Int × Int × Int × (List (G_QKey × G_cell))) ⊕ Bool)} (h : S_glossatorlaw3_InputsScript_j35 m a0 a1 a2 a3 v38 v82 v89 v90 v91 v105 v106 v107 v108 v109 = some o) :
    LWp Try.prog f3_lay 0 f3_c5 (QBlock 1 (QSeq Try.prog f3_lay 0 f3_c1 (BodyQ 0 4 (f3_L5_env a0 a1 a2 a3) (f3_L5_hp a0 a1 a2 a3) (f3_L5_Q a0 a1 a2 a3) o))) [(0, .isl 3 (a0.map e_QKey) false), (1, .isl 2 (a1.map e_QValue) false), (2, .isl 1 (a2.map e_i64) false), (3, .int .i64 a3), (9, .ptr (0, 0) 0 0), (11, .msl (1, 0) 7 0 v106.length false), (12, .int .i64 v105), (13, .ptr (2, 0) 0 0), (15, .bool v82.1), (16, .int .i64 v82.2.1), (21, .bool ((!v91) || (((v90.getD (0 + v89.toNat) default).f_last).f_Durability != (a2.getD v38.toNat default)))), (43, .int .i64 (if 30 < (if ((a2.map e_i64).length : Int) < (if ((a1.map e_QValue).length : Int) < ((a0.map e_QKey).length : Int) then ((a1.map e_QValue).length : Int) else ((a0.map e_QKey).length : Int)) then ((a2.map e_i64).length : Int) else (if ((a1.map e_QValue).length : Int) < ((a0.map e_QKey).length : Int) then ((a1.map e_QValue).length : Int) else ((a0.map e_QKey).length : Int))) then 30 else (if ((a2.map e_i64).length : Int) < (if ((a1.map e_QValue).length : Int) < ((a0.map e_QKey).length : Int) then ((a1.map e_QValue).length : Int) else ((a0.map e_QKey).length : Int)) then ((a2.map e_i64).length : Int) else (if ((a1.map e_QValue).length : Int) < ((a0.map e_QKey).length : Int) then ((a1.map e_QValue).length : Int) else ((a0.map e_QKey).length : Int))))), (44, .int .i64 v38)] [((0, 0), .one [.int .i64 v82.2.2.1, .int .i64 v82.2.2.2.1, .int .i64 v82.2.2.2.2.1, .int .i64 v82.2.2.2.2.2.1, .map (3, 0)]), ((1, 0), .rows 7 (v106.map e_input)), ((2, 0), .one [.int .i64 v107, .int .i64 v108, .int .i64 v109]), ((3, 0), .amap (v82.2.2.2.2.2.2.map (em a_QKey a_cell)))] 4 := by
  unfold S_glossatorlaw3_InputsScript_j35 at h
  refine seqI ?_
  refine regI ?_
  refine And.intro (fun hp => (And.intro hp hp)) ?_
  show yops _ _ _ [(185, .cnd ((v82.2.1 != 0) == false) (.bool (!(v82.1 == ((!v91) || (((v90.getD (0 + v89.toNat) default).f_last).f_Durability != (a2.getD v38.toNat default))))))), (184, .cnd ((v82.2.1 != 0) == false) (.bool ((!v91) || (((v90.getD (0 + v89.toNat) default).f_last).f_Durability != (a2.getD v38.toNat default))))), (183, .cnd ((v82.2.1 != 0) == false) (.bool v82.1)), (182, .bool (v82.2.1 != 0)), (181, .bool (v82.2.1 != 0)), (180, .int .i64 v82.2.1), (0, .isl 3 (a0.map e_QKey) false), (1, .isl 2 (a1.map e_QValue) false), (2, .isl 1 (a2.map e_i64) false), (3, .int .i64 a3), (9, .ptr (0, 0) 0 0), (11, .msl (1, 0) 7 0 v106.length false), (12, .int .i64 v105), (13, .ptr (2, 0) 0 0), (15, .bool v82.1), (16, .int .i64 v82.2.1), (21, .bool ((!v91) || (((v90.getD (0 + v89.toNat) default).f_last).f_Durability != (a2.getD v38.toNat default)))), (43, .int .i64 (if 30 < (if ((a2.map e_i64).length : Int) < (if ((a1.map e_QValue).length : Int) < ((a0.map e_QKey).length : Int) then ((a1.map e_QValue).length : Int) else ((a0.map e_QKey).length : Int)) then ((a2.map e_i64).length : Int) else (if ((a1.map e_QValue).length : Int) < ((a0.map e_QKey).length : Int) then ((a1.map e_QValue).length : Int) else ((a0.map e_QKey).length : Int))) then 30 else (if ((a2.map e_i64).length : Int) < (if ((a1.map e_QValue).length : Int) < ((a0.map e_QKey).length : Int) then ((a1.map e_QValue).length : Int) else ((a0.map e_QKey).length : Int)) then ((a2.map e_i64).length : Int) else (if ((a1.map e_QValue).length : Int) < ((a0.map e_QKey).length : Int) then ((a1.map e_QValue).length : Int) else ((a0.map e_QKey).length : Int))))), (44, .int .i64 v38)] _ _
  refine And.intro (fun hc => (bqf hc)) ?_
  obtain ⟨v110, h164, h⟩ := bind_some h
  refine Or.inl (Exists.intro (.int .i64 v110) (And.intro (fun hp => And.intro hp (ACalls.same rfl (bcall (k := 3) (m := 0) (L' := [((0, 0), .one [.int .i64 v82.2.2.1, .int .i64 v82.2.2.2.1, .int .i64 v82.2.2.2.2.1, .int .i64 v82.2.2.2.2.2.1, .map (3, 0)]), ((3, 0), .amap (v82.2.2.2.2.2.2.map (em a_QKey a_cell)))]) (rest := [((1, 0), .rows 7 (v106.map e_input)), ((2, 0), .one [.int .i64 v107, .int .i64 v108, .int .i64 v109])]) (R' := .int .i64 v110) [((0, 0), (0, 0)), ((0, 1), (3, 0))] (f8b0_ok (ite_tt hp h164)) rfl rfl rfl (And.intro (Vw.ptr _ _ _ _ rfl) trivial) (And.intro (h0I (0, 0) rfl rfl (BVw.oneL (And.intro (Vw.same _ rfl) (And.intro (Vw.same _ rfl) (And.intro (Vw.same _ rfl) (And.intro (Vw.same _ rfl) (And.intro (Vw.map _ _ rfl) trivial))))))) (And.intro (h0I (3, 0) rfl rfl (BVw.ofMap a_QKey a_cell a_cell_nid v82.2.2.2.2.2.2)) trivial)) (nid_ren _ rfl) (And.intro rfl (And.intro rfl (And.intro rfl (And.intro (map_ren a_QKey a_cell a_QKey_nid a_cell_nid v82.2.2.2.2.2.2) trivial)))) rfl (And.intro rfl (HeapTo.get (And.intro (And.intro rfl (BVw.oneL (And.intro (Vw.same _ rfl) (And.intro (Vw.same _ rfl) (And.intro (Vw.same _ rfl) (And.intro (Vw.same _ rfl) (And.intro (Vw.map _ _ rfl) trivial))))))) (And.intro (And.intro rfl (BVw.enc e_input (fun _ => rfl) _ v106)) (And.intro (And.intro rfl (BVw.oneL (And.intro (Vw.same _ rfl) (And.intro (Vw.same _ rfl) (And.intro (Vw.same _ rfl) trivial))))) (And.intro (And.intro rfl (BVw.ofMap a_QKey a_cell a_cell_nid v82.2.2.2.2.2.2)) trivial))))))))) ?_))
  refine And.intro (fun hp => (And.intro hp hp)) ?_
  show yops _ _ _ [(191, .cnd (((v82.2.1 != 0) || (!(v82.1 == ((!v91) || (((v90.getD (0 + v89.toNat) default).f_last).f_Durability != (a2.getD v38.toNat default)))))) == false) (.bool (v110 != v105))), (190, .cnd (((v82.2.1 != 0) || (!(v82.1 == ((!v91) || (((v90.getD (0 + v89.toNat) default).f_last).f_Durability != (a2.getD v38.toNat default)))))) == false) (.int .i64 v105)), (189, .cnd (((v82.2.1 != 0) || (!(v82.1 == ((!v91) || (((v90.getD (0 + v89.toNat) default).f_last).f_Durability != (a2.getD v38.toNat default)))))) == false) (.int .i64 v110)), (188, .cnd (((v82.2.1 != 0) || (!(v82.1 == ((!v91) || (((v90.getD (0 + v89.toNat) default).f_last).f_Durability != (a2.getD v38.toNat default)))))) == false) (.ptr (0, 0) 0 0)), (187, .bool ((v82.2.1 != 0) || (!(v82.1 == ((!v91) || (((v90.getD (0 + v89.toNat) default).f_last).f_Durability != (a2.getD v38.toNat default))))))), (186, .bool ((v82.2.1 != 0) || (!(v82.1 == ((!v91) || (((v90.getD (0 + v89.toNat) default).f_last).f_Durability != (a2.getD v38.toNat default))))))), (185, .cnd ((v82.2.1 != 0) == false) (.bool (!(v82.1 == ((!v91) || (((v90.getD (0 + v89.toNat) default).f_last).f_Durability != (a2.getD v38.toNat default))))))), (184, .cnd ((v82.2.1 != 0) == false) (.bool ((!v91) || (((v90.getD (0 + v89.toNat) default).f_last).f_Durability != (a2.getD v38.toNat default))))), (183, .cnd ((v82.2.1 != 0) == false) (.bool v82.1)), (182, .bool (v82.2.1 != 0)), (181, .bool (v82.2.1 != 0)), (180, .int .i64 v82.2.1), (0, .isl 3 (a0.map e_QKey) false), (1, .isl 2 (a1.map e_QValue) false), (2, .isl 1 (a2.map e_i64) false), (3, .int .i64 a3), (9, .ptr (0, 0) 0 0), (11, .msl (1, 0) 7 0 v106.length false), (12, .int .i64 v105), (13, .ptr (2, 0) 0 0), (15, .bool v82.1), (16, .int .i64 v82.2.1), (21, .bool ((!v91) || (((v90.getD (0 + v89.toNat) default).f_last).f_Durability != (a2.getD v38.toNat default)))), (43, .int .i64 (if 30 < (if ((a2.map e_i64).length : Int) < (if ((a1.map e_QValue).length : Int) < ((a0.map e_QKey).length : Int) then ((a1.map e_QValue).length : Int) else ((a0.map e_QKey).length : Int)) then ((a2.map e_i64).length : Int) else (if ((a1.map e_QValue).length : Int) < ((a0.map e_QKey).length : Int) then ((a1.map e_QValue).length : Int) else ((a0.map e_QKey).length : Int))) then 30 else (if ((a2.map e_i64).length : Int) < (if ((a1.map e_QValue).length : Int) < ((a0.map e_QKey).length : Int) then ((a1.map e_QValue).length : Int) else ((a0.map e_QKey).length : Int)) then ((a2.map e_i64).length : Int) else (if ((a1.map e_QValue).length : Int) < ((a0.map e_QKey).length : Int) then ((a1.map e_QValue).length : Int) else ((a0.map e_QKey).length : Int))))), (44, .int .i64 v38)] _ _
  refine And.intro (fun hc => (bqf hc)) ?_
  refine LWp.sim (e := [(0, .isl 3 (a0.map e_QKey) false), (1, .isl 2 (a1.map e_QValue) false), (2, .isl 1 (a2.map e_i64) false), (3, .int .i64 a3), (9, .ptr (0, 0) 0 0), (11, .msl (1, 0) 7 0 v106.length false), (12, .int .i64 v105), (13, .ptr (2, 0) 0 0), (43, .int .i64 (if 30 < (if ((a2.map e_i64).length : Int) < (if ((a1.map e_QValue).length : Int) < ((a0.map e_QKey).length : Int) then ((a1.map e_QValue).length : Int) else ((a0.map e_QKey).length : Int)) then ((a2.map e_i64).length : Int) else (if ((a1.map e_QValue).length : Int) < ((a0.map e_QKey).length : Int) then ((a1.map e_QValue).length : Int) else ((a0.map e_QKey).length : Int))) then 30 else (if ((a2.map e_i64).length : Int) < (if ((a1.map e_QValue).length : Int) < ((a0.map e_QKey).length : Int) then ((a1.map e_QValue).length : Int) else ((a0.map e_QKey).length : Int)) then ((a2.map e_i64).length : Int) else (if ((a1.map e_QValue).length : Int) < ((a0.map e_QKey).length : Int) then ((a1.map e_QValue).length : Int) else ((a0.map e_QKey).length : Int))))), (44, .int .i64 v38), (192, .bool (((v82.2.1 != 0) || (!(v82.1 == ((!v91) || (((v90.getD (0 + v89.toNat) default).f_last).f_Durability != (a2.getD v38.toNat default)))))) || (v110 != v105)))]) (L := [((0, 0), .one [.int .i64 v82.2.2.1, .int .i64 v82.2.2.2.1, .int .i64 v82.2.2.2.2.1, .int .i64 v82.2.2.2.2.2.1, .map (3, 0)]), ((1, 0), .rows 7 (v106.map e_input)), ((2, 0), .one [.int .i64 v107, .int .i64 v108, .int .i64 v109]), ((3, 0), .amap (v82.2.2.2.2.2.2.map (em a_QKey a_cell)))]) (n := 4) (simI (M := [((0, 0), (0, 0)), ((1, 0), (1, 0)), ((2, 0), (2, 0)), ((3, 0), (3, 0))]) rfl (And.intro (Vw.same _ rfl) (And.intro (Vw.same _ rfl) (And.intro (Vw.same _ rfl) (And.intro (Vw.same _ rfl) (And.intro (Vw.ptr _ _ _ _ rfl) (And.intro (Vw.mslE rfl (by first | rfl | simp) rfl) (And.intro (Vw.same _ rfl) (And.intro (Vw.ptr _ _ _ _ rfl) (And.intro (Vw.same _ rfl) (And.intro (Vw.same _ rfl) (And.intro (Vw.same _ rfl) trivial))))))))))) (And.intro (And.intro rfl (BVw.oneL (And.intro (Vw.same _ rfl) (And.intro (Vw.same _ rfl) (And.intro (Vw.same _ rfl) (And.intro (Vw.same _ rfl) (And.intro (Vw.map _ _ rfl) trivial))))))) (And.intro (And.intro rfl (BVw.enc e_input (fun _ => rfl) _ v106)) (And.intro (And.intro rfl (BVw.oneL (And.intro (Vw.same _ rfl) (And.intro (Vw.same _ rfl) (And.intro (Vw.same _ rfl) trivial))))) (And.intro (And.intro rfl (BVw.ofMap a_QKey a_cell a_cell_nid v82.2.2.2.2.2.2)) trivial))))) ?_
  refine condI (v := (((v82.2.1 != 0) || (!(v82.1 == ((!v91) || (((v90.getD (0 + v89.toNat) default).f_last).f_Durability != (a2.getD v38.toNat default)))))) || (v110 != v105))) rfl trivial (fun h165 => ?_) (fun h165 => ?_)
  · have h := ite_tt h165 h
    refine seqI ?_
    refine regI ?_
    refine retI ?_
    obtain ⟨o, hq, rfl⟩ := Option.map_eq_some_iff.1 h
    replace h := hq; clear hq
    refine And.intro nofun ?_
    cases h
    exact And.intro trivial (And.intro rfl (Vw.same _ rfl))
  · have h := ite_ff h165 h
    refine skipI ?_
    refine LWp.sim ?_ (f3_j36_ok h)
    exact simI (M := [((0, 0), (0, 0)), ((1, 0), (1, 0)), ((2, 0), (2, 0)), ((3, 0), (3, 0))]) rfl (And.intro (Vw.same _ rfl) (And.intro (Vw.same _ rfl) (And.intro (Vw.same _ rfl) (And.intro (Vw.same _ rfl) (And.intro (Vw.ptr _ _ _ _ rfl) (And.intro (Vw.mslE rfl (by first | rfl | simp) rfl) (And.intro (Vw.same _ rfl) (And.intro (Vw.ptr _ _ _ _ rfl) (And.intro (Vw.same _ rfl) (And.intro (Vw.same _ rfl) trivial)))))))))) (And.intro (And.intro rfl (BVw.oneL (And.intro (Vw.same _ rfl) (And.intro (Vw.same _ rfl) (And.intro (Vw.same _ rfl) (And.intro (Vw.same _ rfl) (And.intro (Vw.map _ _ rfl) trivial))))))) (And.intro (And.intro rfl (BVw.enc e_input (fun _ => rfl) _ v106)) (And.intro (And.intro rfl (BVw.oneL (And.intro (Vw.same _ rfl) (And.intro (Vw.same _ rfl) (And.intro (Vw.same _ rfl) trivial))))) (And.intro (And.intro rfl (BVw.ofMap a_QKey a_cell a_cell_nid v82.2.2.2.2.2.2)) trivial))))

theorem f3_j34_ok {a0 : List G_QKey} {a1 : List G_QValue} {a2 : List Int} {a3 : Int} {v37 : Int} {v38 : Int} {v82 : Bool × Int × Int × Int × Int × Int × (List (G_QKey × G_cell))} {v89 : Int} {v90 : List G_input} {v91 : Bool} {v96 : Int} {v97 : Int} {v98 : Int} {m : Option Nat} {o : ((Int × Int × Int × Int × Int × Int × (List G_input) × Int × Int × Int × (List (G_QKey × G_cell))) ⊕ Bool)} (h : S_glossatorlaw3_InputsScript_j34 m a0 a1 a2 a3 v37 v38 v82 v89 v90 v91 v96 v97 v98 = some o) :
    LWp Try.prog f3_lay 0 f3_c4 (QSeq Try.prog f3_lay 0 f3_c5 (QBlock 1 (QSeq Try.prog f3_lay 0 f3_c1 (BodyQ 0 4 (f3_L5_env a0 a1 a2 a3) (f3_L5_hp a0 a1 a2 a3) (f3_L5_Q a0 a1 a2 a3) o)))) [(0, .isl 3 (a0.map e_QKey) false), (1, .isl 2 (a1.map e_QValue) false), (2, .isl 1 (a2.map e_i64) false), (3, .int .i64 a3), (9, .ptr (0, 0) 0 0), (11, .msl (1, 0) 7 0 v90.length false), (12, .int .i64 (W (v37 + 1))), (13, .ptr (2, 0) 0 0), (14, .int .i64 v38), (15, .bool v82.1), (16, .int .i64 v82.2.1), (18, .int .i64 v89), (21, .bool ((!v91) || (((v90.getD (0 + v89.toNat) default).f_last).f_Durability != (a2.getD v38.toNat default)))), (43, .int .i64 (if 30 < (if ((a2.map e_i64).length : Int) < (if ((a1.map e_QValue).length : Int) < ((a0.map e_QKey).length : Int) then ((a1.map e_QValue).length : Int) else ((a0.map e_QKey).length : Int)) then ((a2.map e_i64).length : Int) else (if ((a1.map e_QValue).length : Int) < ((a0.map e_QKey).length : Int) then ((a1.map e_QValue).length : Int) else ((a0.map e_QKey).length : Int))) then 30 else (if ((a2.map e_i64).length : Int) < (if ((a1.map e_QValue).length : Int) < ((a0.map e_QKey).length : Int) then ((a1.map e_QValue).length : Int) else ((a0.map e_QKey).length : Int)) then ((a2.map e_i64).length : Int) else (if ((a1.map e_QValue).length : Int) < ((a0.map e_QKey).length : Int) then ((a1.map e_QValue).length : Int) else ((a0.map e_QKey).length : Int))))), (44, .int .i64 v38)] [((0, 0), .one [.int .i64 v82.2.2.1, .int .i64 v82.2.2.2.1, .int .i64 v82.2.2.2.2.1, .int .i64 v82.2.2.2.2.2.1, .map (3, 0)]), ((1, 0), .rows 7 (v90.map e_input)), ((2, 0), .one [.int .i64 v96, .int .i64 v97, .int .i64 v98]), ((3, 0), .amap (v82.2.2.2.2.2.2.map (em a_QKey a_cell)))] 4 := by
  unfold S_glossatorlaw3_InputsScript_j34 at h
  refine drawO rfl ?_
  obtain ⟨h160, h⟩ := ite_some h
  refine And.intro h160 ?_
  show yops _ _ _ [(170, .iptr 2 (a1.map e_QValue) v38.toNat 0), (169, .int .i64 v38), (168, .isl 2 (a1.map e_QValue) false), (167, .int .i64 v89), (166, .msl (1, 0) 7 0 v90.length false), (0, .isl 3 (a0.map e_QKey) false), (1, .isl 2 (a1.map e_QValue) false), (2, .isl 1 (a2.map e_i64) false), (3, .int .i64 a3), (9, .ptr (0, 0) 0 0), (11, .msl (1, 0) 7 0 v90.length false), (12, .int .i64 (W (v37 + 1))), (13, .ptr (2, 0) 0 0), (14, .int .i64 v38), (15, .bool v82.1), (16, .int .i64 v82.2.1), (18, .int .i64 v89), (21, .bool ((!v91) || (((v90.getD (0 + v89.toNat) default).f_last).f_Durability != (a2.getD v38.toNat default)))), (43, .int .i64 (if 30 < (if ((a2.map e_i64).length : Int) < (if ((a1.map e_QValue).length : Int) < ((a0.map e_QKey).length : Int) then ((a1.map e_QValue).length : Int) else ((a0.map e_QKey).length : Int)) then ((a2.map e_i64).length : Int) else (if ((a1.map e_QValue).length : Int) < ((a0.map e_QKey).length : Int) then ((a1.map e_QValue).length : Int) else ((a0.map e_QKey).length : Int))) then 30 else (if ((a2.map e_i64).length : Int) < (if ((a1.map e_QValue).length : Int) < ((a0.map e_QKey).length : Int) then ((a1.map e_QValue).length : Int) else ((a0.map e_QKey).length : Int)) then ((a2.map e_i64).length : Int) else (if ((a1.map e_QValue).length : Int) < ((a0.map e_QKey).length : Int) then ((a1.map e_QValue).length : Int) else ((a0.map e_QKey).length : Int))))), (44, .int .i64 v38)] _ _
  refine Exists.intro (e_QValue (a1.getD v38.toNat default)) (And.intro (getD_enc e_QValue _ _ (idx_ltL e_QValue h160)) (And.intro (And.intro (idx_lt h160) (Nat.le_of_ble_eq_true rfl)) ?_))
  obtain ⟨h161, h⟩ := ite_some h
  refine And.intro h161 ?_
  show yops _ _ _ [(175, .iptr 1 (a2.map e_i64) v38.toNat 0), (174, .int .i64 v38), (173, .isl 1 (a2.map e_i64) false), (172, .int .i64 (W (v37 + 1))), (171, .agg [.isl 1 (((a1.getD v38.toNat default).f_Nums).map e_i64) false, .str ((a1.getD v38.toNat default).f_Text)]), (170, .iptr 2 (a1.map e_QValue) v38.toNat 0), (169, .int .i64 v38), (168, .isl 2 (a1.map e_QValue) false), (167, .int .i64 v89), (166, .msl (1, 0) 7 0 v90.length false), (0, .isl 3 (a0.map e_QKey) false), (1, .isl 2 (a1.map e_QValue) false), (2, .isl 1 (a2.map e_i64) false), (3, .int .i64 a3), (9, .ptr (0, 0) 0 0), (11, .msl (1, 0) 7 0 v90.length false), (12, .int .i64 (W (v37 + 1))), (13, .ptr (2, 0) 0 0), (14, .int .i64 v38), (15, .bool v82.1), (16, .int .i64 v82.2.1), (18, .int .i64 v89), (21, .bool ((!v91) || (((v90.getD (0 + v89.toNat) default).f_last).f_Durability != (a2.getD v38.toNat default)))), (43, .int .i64 (if 30 < (if ((a2.map e_i64).length : Int) < (if ((a1.map e_QValue).length : Int) < ((a0.map e_QKey).length : Int) then ((a1.map e_QValue).length : Int) else ((a0.map e_QKey).length : Int)) then ((a2.map e_i64).length : Int) else (if ((a1.map e_QValue).length : Int) < ((a0.map e_QKey).length : Int) then ((a1.map e_QValue).length : Int) else ((a0.map e_QKey).length : Int))) then 30 else (if ((a2.map e_i64).length : Int) < (if ((a1.map e_QValue).length : Int) < ((a0.map e_QKey).length : Int) then ((a1.map e_QValue).length : Int) else ((a0.map e_QKey).length : Int)) then ((a2.map e_i64).length : Int) else (if ((a1.map e_QValue).length : Int) < ((a0.map e_QKey).length : Int) then ((a1.map e_QValue).length : Int) else ((a0.map e_QKey).length : Int))))), (44, .int .i64 v38)] _ _
  refine Exists.intro (e_i64 (a2.getD v38.toNat default)) (And.intro (getD_enc e_i64 _ _ (idx_ltL e_i64 h161)) (And.intro (And.intro (idx_lt h161) (Nat.le_of_ble_eq_true rfl)) ?_))
  obtain ⟨h162, h⟩ := ite_some h
  refine And.intro h162 ?_
  obtain ⟨h163, h⟩ := ite_some h
  refine Exists.intro ((v90.set (0 + v89.toNat) (G_input.mk (G_QKey.mk (((v90.getD (0 + v89.toNat) default).f_key).f_Kind) (((v90.getD (0 + v89.toNat) default).f_key).f_A) (((v90.getD (0 + v89.toNat) default).f_key).f_B)) (G_Input.mk (G_QValue.mk ((a1.getD v38.toNat default).f_Nums) ((a1.getD v38.toNat default).f_Text)) (W (v37 + 1)) (a2.getD v38.toNat default)))).map e_input) (And.intro (set_enc e_input _ _ _ _ _ h163 rfl) (And.intro (And.intro rfl (And.intro (lt_map e_input h163) (Nat.le_of_ble_eq_true rfl))) ?_))
  refine LWp.sim ?_ (f3_j35_ok h)
  exact simI (M := [((0, 0), (0, 0)), ((1, 0), (1, 0)), ((2, 0), (2, 0)), ((3, 0), (3, 0))]) rfl (And.intro (Vw.same _ rfl) (And.intro (Vw.same _ rfl) (And.intro (Vw.same _ rfl) (And.intro (Vw.same _ rfl) (And.intro (Vw.ptr _ _ _ _ rfl) (And.intro (Vw.mslE rfl (by first | rfl | simp) rfl) (And.intro (Vw.same _ rfl) (And.intro (Vw.ptr _ _ _ _ rfl) (And.intro (Vw.same _ rfl) (And.intro (Vw.same _ rfl) (And.intro (Vw.same _ rfl) (And.intro (Vw.same _ rfl) (And.intro (Vw.same _ rfl) trivial))))))))))))) (And.intro (And.intro rfl (BVw.oneL (And.intro (Vw.same _ rfl) (And.intro (Vw.same _ rfl) (And.intro (Vw.same _ rfl) (And.intro (Vw.same _ rfl) (And.intro (Vw.map _ _ rfl) trivial))))))) (And.intro (And.intro rfl (BVw.enc e_input (fun _ => rfl) _ (v90.set (0 + v89.toNat) (G_input.mk (G_QKey.mk (((v90.getD (0 + v89.toNat) default).f_key).f_Kind) (((v90.getD (0 + v89.toNat) default).f_key).f_A) (((v90.getD (0 + v89.toNat) default).f_key).f_B)) (G_Input.mk (G_QValue.mk ((a1.getD v38.toNat default).f_Nums) ((a1.getD v38.toNat default).f_Text)) (W (v37 + 1)) (a2.getD v38.toNat default)))))) (And.intro (And.intro rfl (BVw.oneL (And.intro (Vw.same _ rfl) (And.intro (Vw.same _ rfl) (And.intro (Vw.same _ rfl) trivial))))) (And.intro (And.intro rfl (BVw.ofMap a_QKey a_cell a_cell_nid v82.2.2.2.2.2.2)) trivial))))

theorem f3_L7_bok {a0 : List G_QKey} {a1 : List G_QValue} {a2 : List Int} {a3 : Int} {v37 : Int} {v38 : Int} {v82 : Bool × Int × Int × Int × Int × Int × (List (G_QKey × G_cell))} {v89 : Int} {v90 : List G_input} {v91 : Bool} {v95 : Int} {v96 : Int} {v97 : Int} {v98 : Int} {m : Option Nat} {o : (Int × Int × Int × Int) ⊕ ((Int × Int × Int × Int × Int × Int × (List G_input) × Int × Int × Int × (List (G_QKey × G_cell))) ⊕ Bool)} (h : S_glossatorlaw3_InputsScript_b7 m a0 a1 a2 a3 v37 v38 v82 v89 v90 v91 v95 v96 v97 v98 = some o) :
    LWp Try.prog f3_lay 0 f3_c6 (BodyQ 0 5 (f3_L7_env a0 a1 a2 a3 v37 v38 v82 v89 v90 v91) (f3_L7_hp a0 a1 a2 a3 v37 v38 v82 v89 v90 v91) (f3_L7_Q a0 a1 a2 a3) o) [(0, .isl 3 (a0.map e_QKey) false), (1, .isl 2 (a1.map e_QValue) false), (2, .isl 1 (a2.map e_i64) false), (3, .int .i64 a3), (9, .ptr (0, 0) 0 0), (11, .msl (1, 0) 7 0 v90.length false), (12, .int .i64 (W (v37 + 1))), (13, .ptr (2, 0) 0 0), (14, .int .i64 v38), (15, .bool v82.1), (16, .int .i64 v82.2.1), (18, .int .i64 v89), (20, .ptr (3, 0) 0 0), (21, .bool ((!v91) || (((v90.getD (0 + v89.toNat) default).f_last).f_Durability != (a2.getD v38.toNat default)))), (43, .int .i64 (if 30 < (if ((a2.map e_i64).length : Int) < (if ((a1.map e_QValue).length : Int) < ((a0.map e_QKey).length : Int) then ((a1.map e_QValue).length : Int) else ((a0.map e_QKey).length : Int)) then ((a2.map e_i64).length : Int) else (if ((a1.map e_QValue).length : Int) < ((a0.map e_QKey).length : Int) then ((a1.map e_QValue).length : Int) else ((a0.map e_QKey).length : Int))) then 30 else (if ((a2.map e_i64).length : Int) < (if ((a1.map e_QValue).length : Int) < ((a0.map e_QKey).length : Int) then ((a1.map e_QValue).length : Int) else ((a0.map e_QKey).length : Int)) then ((a2.map e_i64).length : Int) else (if ((a1.map e_QValue).length : Int) < ((a0.map e_QKey).length : Int) then ((a1.map e_QValue).length : Int) else ((a0.map e_QKey).length : Int))))), (44, .int .i64 v38), (150, .int .i64 v95)] [((0, 0), .one [.int .i64 v82.2.2.1, .int .i64 v82.2.2.2.1, .int .i64 v82.2.2.2.2.1, .int .i64 v82.2.2.2.2.2.1, .map (4, 0)]), ((1, 0), .rows 7 (v90.map e_input)), ((2, 0), .one [.int .i64 v96, .int .i64 v97, .int .i64 v98]), ((3, 0), .one [.isl 1 (((((v90.getD (0 + v89.toNat) default).f_last).f_Value).f_Nums).map e_i64) false, .str ((((v90.getD (0 + v89.toNat) default).f_last).f_Value).f_Text), .int .i64 (((v90.getD (0 + v89.toNat) default).f_last).f_Changed), .int .i64 (((v90.getD (0 + v89.toNat) default).f_last).f_Durability)]), ((4, 0), .amap (v82.2.2.2.2.2.2.map (em a_QKey a_cell)))] 5 := by
  unfold S_glossatorlaw3_InputsScript_b7 at h
  refine seqI ?_
  refine regI ?_
  refine seqI ?_
  refine condI (v := (decide (v95 < 3))) rfl trivial (fun h156 => ?_) (fun h156 => ?_)
  · have h := ite_tt h156 h
    refine skipI ?_
    refine seqI ?_
    refine blockI ?_
    refine seqI ?_
    refine regI ?_
    refine seqI ?_
    refine quietI ?_
    obtain ⟨h157, h⟩ := ite_some h
    refine And.intro h157 ?_
    show yqs _ _ [(158, .iptr 1 (a2.map e_i64) v38.toNat 0), (157, .int .i64 v38), (156, .isl 1 (a2.map e_i64) false), (155, .int .i64 (((v90.getD (0 + v89.toNat) default).f_last).f_Durability)), (154, .ptr (3, 0) 0 3), (153, .int .i64 v95), (22, .int .i64 v95), (152, .int .i64 v95), (151, .bool (decide (v95 < 3))), (0, .isl 3 (a0.map e_QKey) false), (1, .isl 2 (a1.map e_QValue) false), (2, .isl 1 (a2.map e_i64) false), (3, .int .i64 a3), (9, .ptr (0, 0) 0 0), (11, .msl (1, 0) 7 0 v90.length false), (12, .int .i64 (W (v37 + 1))), (13, .ptr (2, 0) 0 0), (14, .int .i64 v38), (15, .bool v82.1), (16, .int .i64 v82.2.1), (18, .int .i64 v89), (20, .ptr (3, 0) 0 0), (21, .bool ((!v91) || (((v90.getD (0 + v89.toNat) default).f_last).f_Durability != (a2.getD v38.toNat default)))), (43, .int .i64 (if 30 < (if ((a2.map e_i64).length : Int) < (if ((a1.map e_QValue).length : Int) < ((a0.map e_QKey).length : Int) then ((a1.map e_QValue).length : Int) else ((a0.map e_QKey).length : Int)) then ((a2.map e_i64).length : Int) else (if ((a1.map e_QValue).length : Int) < ((a0.map e_QKey).length : Int) then ((a1.map e_QValue).length : Int) else ((a0.map e_QKey).length : Int))) then 30 else (if ((a2.map e_i64).length : Int) < (if ((a1.map e_QValue).length : Int) < ((a0.map e_QKey).length : Int) then ((a1.map e_QValue).length : Int) else ((a0.map e_QKey).length : Int)) then ((a2.map e_i64).length : Int) else (if ((a1.map e_QValue).length : Int) < ((a0.map e_QKey).length : Int) then ((a1.map e_QValue).length : Int) else ((a0.map e_QKey).length : Int))))), (44, .int .i64 v38), (150, .int .i64 v95)] _ _
    refine Exists.intro (e_i64 (a2.getD v38.toNat default)) (And.intro (getD_enc e_i64 _ _ (idx_ltL e_i64 h157)) (And.intro (And.intro (idx_lt h157) (Nat.le_of_ble_eq_true rfl)) ?_))
    refine LWp.sim (e := [(0, .isl 3 (a0.map e_QKey) false), (1, .isl 2 (a1.map e_QValue) false), (2, .isl 1 (a2.map e_i64) false), (3, .int .i64 a3), (9, .ptr (0, 0) 0 0), (11, .msl (1, 0) 7 0 v90.length false), (12, .int .i64 (W (v37 + 1))), (13, .ptr (2, 0) 0 0), (14, .int .i64 v38), (15, .bool v82.1), (16, .int .i64 v82.2.1), (18, .int .i64 v89), (20, .ptr (3, 0) 0 0), (21, .bool ((!v91) || (((v90.getD (0 + v89.toNat) default).f_last).f_Durability != (a2.getD v38.toNat default)))), (22, .int .i64 v95), (43, .int .i64 (if 30 < (if ((a2.map e_i64).length : Int) < (if ((a1.map e_QValue).length : Int) < ((a0.map e_QKey).length : Int) then ((a1.map e_QValue).length : Int) else ((a0.map e_QKey).length : Int)) then ((a2.map e_i64).length : Int) else (if ((a1.map e_QValue).length : Int) < ((a0.map e_QKey).length : Int) then ((a1.map e_QValue).length : Int) else ((a0.map e_QKey).length : Int))) then 30 else (if ((a2.map e_i64).length : Int) < (if ((a1.map e_QValue).length : Int) < ((a0.map e_QKey).length : Int) then ((a1.map e_QValue).length : Int) else ((a0.map e_QKey).length : Int)) then ((a2.map e_i64).length : Int) else (if ((a1.map e_QValue).length : Int) < ((a0.map e_QKey).length : Int) then ((a1.map e_QValue).length : Int) else ((a0.map e_QKey).length : Int))))), (44, .int .i64 v38), (150, .int .i64 v95), (161, .bool (decide (v95 ≤ (if (a2.getD v38.toNat default) > ((v90.getD (0 + v89.toNat) default).f_last).f_Durability then (a2.getD v38.toNat default) else ((v90.getD (0 + v89.toNat) default).f_last).f_Durability))))]) (L := [((0, 0), .one [.int .i64 v82.2.2.1, .int .i64 v82.2.2.2.1, .int .i64 v82.2.2.2.2.1, .int .i64 v82.2.2.2.2.2.1, .map (4, 0)]), ((1, 0), .rows 7 (v90.map e_input)), ((2, 0), .one [.int .i64 v96, .int .i64 v97, .int .i64 v98]), ((3, 0), .one [.isl 1 (((((v90.getD (0 + v89.toNat) default).f_last).f_Value).f_Nums).map e_i64) false, .str ((((v90.getD (0 + v89.toNat) default).f_last).f_Value).f_Text), .int .i64 (((v90.getD (0 + v89.toNat) default).f_last).f_Changed), .int .i64 (((v90.getD (0 + v89.toNat) default).f_last).f_Durability)]), ((4, 0), .amap (v82.2.2.2.2.2.2.map (em a_QKey a_cell)))]) (n := 5) (simI (M := [((0, 0), (0, 0)), ((1, 0), (1, 0)), ((2, 0), (2, 0)), ((3, 0), (3, 0)), ((4, 0), (4, 0))]) rfl (And.intro (Vw.same _ rfl) (And.intro (Vw.same _ rfl) (And.intro (Vw.same _ rfl) (And.intro (Vw.same _ rfl) (And.intro (Vw.ptr _ _ _ _ rfl) (And.intro (Vw.mslE rfl (by first | rfl | simp) rfl) (And.intro (Vw.same _ rfl) (And.intro (Vw.ptr _ _ _ _ rfl) (And.intro (Vw.same _ rfl) (And.intro (Vw.same _ rfl) (And.intro (Vw.same _ rfl) (And.intro (Vw.same _ rfl) (And.intro (Vw.ptr _ _ _ _ rfl) (And.intro (Vw.same _ rfl) (And.intro (Vw.same _ rfl) (And.intro (Vw.same _ rfl) (And.intro (Vw.same _ rfl) (And.intro (Vw.same _ rfl) (And.intro (Vw.same _ rfl) trivial))))))))))))))))))) (And.intro (And.intro rfl (BVw.oneL (And.intro (Vw.same _ rfl) (And.intro (Vw.same _ rfl) (And.intro (Vw.same _ rfl) (And.intro (Vw.same _ rfl) (And.intro (Vw.map _ _ rfl) trivial))))))) (And.intro (And.intro rfl (BVw.enc e_input (fun _ => rfl) _ v90)) (And.intro (And.intro rfl (BVw.oneL (And.intro (Vw.same _ rfl) (And.intro (Vw.same _ rfl) (And.intro (Vw.same _ rfl) trivial))))) (And.intro (And.intro rfl (BVw.oneL (And.intro (Vw.same _ rfl) (And.intro (Vw.same _ rfl) (And.intro (Vw.same _ rfl) (And.intro (Vw.same _ rfl) trivial)))))) (And.intro (And.intro rfl (BVw.ofMap a_QKey a_cell a_cell_nid v82.2.2.2.2.2.2)) trivial)))))) ?_
    refine condI (v := (decide (v95 ≤ (if (a2.getD v38.toNat default) > ((v90.getD (0 + v89.toNat) default).f_last).f_Durability then (a2.getD v38.toNat default) else ((v90.getD (0 + v89.toNat) default).f_last).f_Durability)))) rfl trivial (fun h158 => ?_) (fun h158 => ?_)
    · have h := ite_tt h158 h
      refine regI ?_
      obtain ⟨h159, h⟩ := ite_some h
      refine And.intro h159 (And.intro (fun hj => ?_) (And.intro (fun hj => ?_) (And.intro (fun hj => ?_) trivial)))
      · have h := ite_tt (fork_eq hj) h
        refine LWp.sim ?_ (f3_j33_ok h)
        exact simI (M := [((0, 0), (0, 0)), ((1, 0), (1, 0)), ((2, 0), (2, 0)), ((3, 0), (3, 0)), ((4, 0), (4, 0))]) rfl (And.intro (Vw.same _ rfl) (And.intro (Vw.same _ rfl) (And.intro (Vw.same _ rfl) (And.intro (Vw.same _ rfl) (And.intro (Vw.ptr _ _ _ _ rfl) (And.intro (Vw.mslE rfl (by first | rfl | simp) rfl) (And.intro (Vw.same _ rfl) (And.intro (Vw.ptr _ _ _ _ rfl) (And.intro (Vw.same _ rfl) (And.intro (Vw.same _ rfl) (And.intro (Vw.same _ rfl) (And.intro (Vw.same _ rfl) (And.intro (Vw.ptr _ _ _ _ rfl) (And.intro (Vw.same _ rfl) (And.intro (Vw.same _ rfl) (And.intro (Vw.same _ rfl) (And.intro (Vw.same _ rfl) trivial))))))))))))))))) (And.intro (And.intro rfl (BVw.oneL (And.intro (Vw.same _ rfl) (And.intro (Vw.same _ rfl) (And.intro (Vw.same _ rfl) (And.intro (Vw.same _ rfl) (And.intro (Vw.map _ _ rfl) trivial))))))) (And.intro (And.intro rfl (BVw.enc e_input (fun _ => rfl) _ v90)) (And.intro (And.intro rfl (BVw.oneL (And.intro (Vw.same _ rfl) (And.intro (Vw.same _ rfl) (And.intro (Vw.same _ rfl) trivial))))) (And.intro (And.intro rfl (BVw.oneL (And.intro (Vw.same _ rfl) (And.intro (Vw.same _ rfl) (And.intro (Vw.same _ rfl) (And.intro (Vw.same _ rfl) trivial)))))) (And.intro (And.intro rfl (BVw.ofMap a_QKey a_cell a_cell_nid v82.2.2.2.2.2.2)) trivial)))))
      · have h := ite_ff (fork_ne hj (show ((1 : Nat) : Int) ≠ 0 by decide)) h
        have h := ite_tt (fork_eq hj) h
        refine LWp.sim ?_ (f3_j33_ok h)
        exact simI (M := [((0, 0), (0, 0)), ((1, 0), (1, 0)), ((2, 0), (2, 0)), ((3, 0), (3, 0)), ((4, 0), (4, 0))]) rfl (And.intro (Vw.same _ rfl) (And.intro (Vw.same _ rfl) (And.intro (Vw.same _ rfl) (And.intro (Vw.same _ rfl) (And.intro (Vw.ptr _ _ _ _ rfl) (And.intro (Vw.mslE rfl (by first | rfl | simp) rfl) (And.intro (Vw.same _ rfl) (And.intro (Vw.ptr _ _ _ _ rfl) (And.intro (Vw.same _ rfl) (And.intro (Vw.same _ rfl) (And.intro (Vw.same _ rfl) (And.intro (Vw.same _ rfl) (And.intro (Vw.ptr _ _ _ _ rfl) (And.intro (Vw.same _ rfl) (And.intro (Vw.same _ rfl) (And.intro (Vw.same _ rfl) (And.intro (Vw.same _ rfl) trivial))))))))))))))))) (And.intro (And.intro rfl (BVw.oneL (And.intro (Vw.same _ rfl) (And.intro (Vw.same _ rfl) (And.intro (Vw.same _ rfl) (And.intro (Vw.same _ rfl) (And.intro (Vw.map _ _ rfl) trivial))))))) (And.intro (And.intro rfl (BVw.enc e_input (fun _ => rfl) _ v90)) (And.intro (And.intro rfl (BVw.oneL (And.intro (Vw.same _ rfl) (And.intro (Vw.same _ rfl) (And.intro (Vw.same _ rfl) trivial))))) (And.intro (And.intro rfl (BVw.oneL (And.intro (Vw.same _ rfl) (And.intro (Vw.same _ rfl) (And.intro (Vw.same _ rfl) (And.intro (Vw.same _ rfl) trivial)))))) (And.intro (And.intro rfl (BVw.ofMap a_QKey a_cell a_cell_nid v82.2.2.2.2.2.2)) trivial)))))
      · have h := ite_ff (fork_ne hj (show ((2 : Nat) : Int) ≠ 0 by decide)) h
        have h := ite_ff (fork_ne hj (show ((2 : Nat) : Int) ≠ 1 by decide)) h
        refine LWp.sim ?_ (f3_j33_ok h)
        exact simI (M := [((0, 0), (0, 0)), ((1, 0), (1, 0)), ((2, 0), (2, 0)), ((3, 0), (3, 0)), ((4, 0), (4, 0))]) rfl (And.intro (Vw.same _ rfl) (And.intro (Vw.same _ rfl) (And.intro (Vw.same _ rfl) (And.intro (Vw.same _ rfl) (And.intro (Vw.ptr _ _ _ _ rfl) (And.intro (Vw.mslE rfl (by first | rfl | simp) rfl) (And.intro (Vw.same _ rfl) (And.intro (Vw.ptr _ _ _ _ rfl) (And.intro (Vw.same _ rfl) (And.intro (Vw.same _ rfl) (And.intro (Vw.same _ rfl) (And.intro (Vw.same _ rfl) (And.intro (Vw.ptr _ _ _ _ rfl) (And.intro (Vw.same _ rfl) (And.intro (Vw.same _ rfl) (And.intro (Vw.same _ rfl) (And.intro (Vw.same _ rfl) trivial))))))))))))))))) (And.intro (And.intro rfl (BVw.oneL (And.intro (Vw.same _ rfl) (And.intro (Vw.same _ rfl) (And.intro (Vw.same _ rfl) (And.intro (Vw.same _ rfl) (And.intro (Vw.map _ _ rfl) trivial))))))) (And.intro (And.intro rfl (BVw.enc e_input (fun _ => rfl) _ v90)) (And.intro (And.intro rfl (BVw.oneL (And.intro (Vw.same _ rfl) (And.intro (Vw.same _ rfl) (And.intro (Vw.same _ rfl) trivial))))) (And.intro (And.intro rfl (BVw.oneL (And.intro (Vw.same _ rfl) (And.intro (Vw.same _ rfl) (And.intro (Vw.same _ rfl) (And.intro (Vw.same _ rfl) trivial)))))) (And.intro (And.intro rfl (BVw.ofMap a_QKey a_cell a_cell_nid v82.2.2.2.2.2.2)) trivial)))))
    · have h := ite_ff h158 h
      refine skipI ?_
      refine LWp.sim ?_ (f3_j33_ok h)
      exact simI (M := [((0, 0), (0, 0)), ((1, 0), (1, 0)), ((2, 0), (2, 0)), ((3, 0), (3, 0)), ((4, 0), (4, 0))]) rfl (And.intro (Vw.same _ rfl) (And.intro (Vw.same _ rfl) (And.intro (Vw.same _ rfl) (And.intro (Vw.same _ rfl) (And.intro (Vw.ptr _ _ _ _ rfl) (And.intro (Vw.mslE rfl (by first | rfl | simp) rfl) (And.intro (Vw.same _ rfl) (And.intro (Vw.ptr _ _ _ _ rfl) (And.intro (Vw.same _ rfl) (And.intro (Vw.same _ rfl) (And.intro (Vw.same _ rfl) (And.intro (Vw.same _ rfl) (And.intro (Vw.ptr _ _ _ _ rfl) (And.intro (Vw.same _ rfl) (And.intro (Vw.same _ rfl) (And.intro (Vw.same _ rfl) (And.intro (Vw.same _ rfl) trivial))))))))))))))))) (And.intro (And.intro rfl (BVw.oneL (And.intro (Vw.same _ rfl) (And.intro (Vw.same _ rfl) (And.intro (Vw.same _ rfl) (And.intro (Vw.same _ rfl) (And.intro (Vw.map _ _ rfl) trivial))))))) (And.intro (And.intro rfl (BVw.enc e_input (fun _ => rfl) _ v90)) (And.intro (And.intro rfl (BVw.oneL (And.intro (Vw.same _ rfl) (And.intro (Vw.same _ rfl) (And.intro (Vw.same _ rfl) trivial))))) (And.intro (And.intro rfl (BVw.oneL (And.intro (Vw.same _ rfl) (And.intro (Vw.same _ rfl) (And.intro (Vw.same _ rfl) (And.intro (Vw.same _ rfl) trivial)))))) (And.intro (And.intro rfl (BVw.ofMap a_QKey a_cell a_cell_nid v82.2.2.2.2.2.2)) trivial)))))
  · have h := ite_ff h156 h
    refine exitI ?_
    obtain ⟨o, hq, rfl⟩ := Option.map_eq_some_iff.1 h
    replace h := hq; clear hq
    refine And.intro nofun ?_
    refine LWp.sim ?_ (f3_j34_ok h)
    exact simI (M := [((0, 0), (0, 0)), ((1, 0), (1, 0)), ((2, 0), (2, 0)), ((3, 0), (4, 0))]) rfl (And.intro (Vw.same _ rfl) (And.intro (Vw.same _ rfl) (And.intro (Vw.same _ rfl) (And.intro (Vw.same _ rfl) (And.intro (Vw.ptr _ _ _ _ rfl) (And.intro (Vw.mslE rfl (by first | rfl | simp) rfl) (And.intro (Vw.same _ rfl) (And.intro (Vw.ptr _ _ _ _ rfl) (And.intro (Vw.same _ rfl) (And.intro (Vw.same _ rfl) (And.intro (Vw.same _ rfl) (And.intro (Vw.same _ rfl) (And.intro (Vw.same _ rfl) (And.intro (Vw.same _ rfl) (And.intro (Vw.same _ rfl) trivial))))))))))))))) (And.intro (And.intro rfl (BVw.oneL (And.intro (Vw.same _ rfl) (And.intro (Vw.same _ rfl) (And.intro (Vw.same _ rfl) (And.intro (Vw.same _ rfl) (And.intro (Vw.map _ _ rfl) trivial))))))) (And.intro (And.intro rfl (BVw.enc e_input (fun _ => rfl) _ v90)) (And.intro (And.intro rfl (BVw.oneL (And.intro (Vw.same _ rfl) (And.intro (Vw.same _ rfl) (And.intro (Vw.same _ rfl) trivial))))) (And.intro (And.intro rfl (BVw.ofMap a_QKey a_cell a_cell_nid v82.2.2.2.2.2.2)) trivial))))

theorem f3_L7_ok {a0 : List G_QKey} {a1 : List G_QValue} {a2 : List Int} {a3 : Int} {v37 : Int} {v38 : Int} {v82 : Bool × Int × Int × Int × Int × Int × (List (G_QKey × G_cell))} {v89 : Int} {v90 : List G_input} {v91 : Bool} {v95 : Int} {v96 : Int} {v97 : Int} {v98 : Int} {m : Option Nat} {o : ((Int × Int × Int × Int × Int × Int × (List G_input) × Int × Int × Int × (List (G_QKey × G_cell))) ⊕ Bool)} (h : S_glossatorlaw3_InputsScript_l7 m a0 a1 a2 a3 v37 v38 v82 v89 v90 v91 v95 v96 v97 v98 = some o) :
    LWp Try.prog f3_lay 0 (.loop f3_c6) (QBlock 4 (QSeq Try.prog f3_lay 0 f3_c4 (QSeq Try.prog f3_lay 0 f3_c5 (QBlock 1 (QSeq Try.prog f3_lay 0 f3_c1 (BodyQ 0 4 (f3_L5_env a0 a1 a2 a3) (f3_L5_hp a0 a1 a2 a3) (f3_L5_Q a0 a1 a2 a3) o)))))) [(0, .isl 3 (a0.map e_QKey) false), (1, .isl 2 (a1.map e_QValue) false), (2, .isl 1 (a2.map e_i64) false), (3, .int .i64 a3), (9, .ptr (0, 0) 0 0), (11, .msl (1, 0) 7 0 v90.length false), (12, .int .i64 (W (v37 + 1))), (13, .ptr (2, 0) 0 0), (14, .int .i64 v38), (15, .bool v82.1), (16, .int .i64 v82.2.1), (18, .int .i64 v89), (20, .ptr (3, 0) 0 0), (21, .bool ((!v91) || (((v90.getD (0 + v89.toNat) default).f_last).f_Durability != (a2.getD v38.toNat default)))), (43, .int .i64 (if 30 < (if ((a2.map e_i64).length : Int) < (if ((a1.map e_QValue).length : Int) < ((a0.map e_QKey).length : Int) then ((a1.map e_QValue).length : Int) else ((a0.map e_QKey).length : Int)) then ((a2.map e_i64).length : Int) else (if ((a1.map e_QValue).length : Int) < ((a0.map e_QKey).length : Int) then ((a1.map e_QValue).length : Int) else ((a0.map e_QKey).length : Int))) then 30 else (if ((a2.map e_i64).length : Int) < (if ((a1.map e_QValue).length : Int) < ((a0.map e_QKey).length : Int) then ((a1.map e_QValue).length : Int) else ((a0.map e_QKey).length : Int)) then ((a2.map e_i64).length : Int) else (if ((a1.map e_QValue).length : Int) < ((a0.map e_QKey).length : Int) then ((a1.map e_QValue).length : Int) else ((a0.map e_QKey).length : Int))))), (44, .int .i64 v38), (150, .int .i64 v95)] [((0, 0), .one [.int .i64 v82.2.2.1, .int .i64 v82.2.2.2.1, .int .i64 v82.2.2.2.2.1, .int .i64 v82.2.2.2.2.2.1, .map (4, 0)]), ((1, 0), .rows 7 (v90.map e_input)), ((2, 0), .one [.int .i64 v96, .int .i64 v97, .int .i64 v98]), ((3, 0), .one [.isl 1 (((((v90.getD (0 + v89.toNat) default).f_last).f_Value).f_Nums).map e_i64) false, .str ((((v90.getD (0 + v89.toNat) default).f_last).f_Value).f_Text), .int .i64 (((v90.getD (0 + v89.toNat) default).f_last).f_Changed), .int .i64 (((v90.getD (0 + v89.toNat) default).f_last).f_Durability)]), ((4, 0), .amap (v82.2.2.2.2.2.2.map (em a_QKey a_cell)))] 5 :=
  LWp_loopM (m := m) (s := ((v95, v96, v97, v98) : (Int × Int × Int × Int))) (r := o) (fun (s : (Int × Int × Int × Int)) => S_glossatorlaw3_InputsScript_b7 m a0 a1 a2 a3 v37 v38 v82 v89 v90 v91 s.1 s.2.1 s.2.2.1 s.2.2.2) (f3_L7_env a0 a1 a2 a3 v37 v38 v82 v89 v90 v91) (f3_L7_hp a0 a1 a2 a3 v37 v38 v82 v89 v90 v91) (f3_L7_Q a0 a1 a2 a3) (fun s o h => f3_L7_bok h) h

theorem f3_j30_ok {a0 : List G_QKey} {a1 : List G_QValue} {a2 : List Int} {a3 : Int} {v37 : Int} {v38 : Int} {v44 : Int} {v45 : Int} {v46 : Int} {v82 : Bool × Int × Int × Int × Int × Int × (List (G_QKey × G_cell))} {v89 : Int} {v90 : List G_input} {m : Option Nat} {o : ((Int × Int × Int × Int × Int × Int × (List G_input) × Int × Int × Int × (List (G_QKey × G_cell))) ⊕ Bool)} (h : S_glossatorlaw3_InputsScript_j30 m a0 a1 a2 a3 v37 v38 v44 v45 v46 v82 v89 v90 = some o) :
    LWp Try.prog f3_lay 0 f3_c11 (QBlock 1 (QSeq Try.prog f3_lay 0 f3_c1 (BodyQ 0 4 (f3_L5_env a0 a1 a2 a3) (f3_L5_hp a0 a1 a2 a3) (f3_L5_Q a0 a1 a2 a3) o))) [(0, .isl 3 (a0.map e_QKey) false), (1, .isl 2 (a1.map e_QValue) false), (2, .isl 1 (a2.map e_i64) false), (3, .int .i64 a3), (9, .ptr (0, 0) 0 0), (11, .msl (1, 0) 7 0 v90.length false), (12, .int .i64 v37), (13, .ptr (2, 0) 0 0), (14, .int .i64 v38), (15, .bool v82.1), (16, .int .i64 v82.2.1), (18, .int .i64 v89), (43, .int .i64 (if 30 < (if ((a2.map e_i64).length : Int) < (if ((a1.map e_QValue).length : Int) < ((a0.map e_QKey).length : Int) then ((a1.map e_QValue).length : Int) else ((a0.map e_QKey).length : Int)) then ((a2.map e_i64).length : Int) else (if ((a1.map e_QValue).length : Int) < ((a0.map e_QKey).length : Int) then ((a1.map e_QValue).length : Int) else ((a0.map e_QKey).length : Int))) then 30 else (if ((a2.map e_i64).length : Int) < (if ((a1.map e_QValue).length : Int) < ((a0.map e_QKey).length : Int) then ((a1.map e_QValue).length : Int) else ((a0.map e_QKey).length : Int)) then ((a2.map e_i64).length : Int) else (if ((a1.map e_QValue).length : Int) < ((a0.map e_QKey).length : Int) then ((a1.map e_QValue).length : Int) else ((a0.map e_QKey).length : Int))))), (44, .int .i64 v38)] [((0, 0), .one [.int .i64 v82.2.2.1, .int .i64 v82.2.2.2.1, .int .i64 v82.2.2.2.2.1, .int .i64 v82.2.2.2.2.2.1, .map (3, 0)]), ((1, 0), .rows 7 (v90.map e_input)), ((2, 0), .one [.int .i64 v44, .int .i64 v45, .int .i64 v46]), ((3, 0), .amap (v82.2.2.2.2.2.2.map (em a_QKey a_cell)))] 4 := by
  unfold S_glossatorlaw3_InputsScript_j30 at h
  refine seqI ?_
  refine regI ?_
  obtain ⟨h142, h⟩ := ite_some h
  refine And.intro h142 ?_
  obtain ⟨h143, h⟩ := ite_some h
  refine Exists.intro (e_input (v90.getD (0 + v89.toNat) default)) (And.intro (getD_enc e_input _ _ h143) (And.intro (And.intro (lt_map e_input h143) (Nat.le_of_ble_eq_true rfl)) ?_))
  refine seqI ?_
  refine drawO rfl ?_
  obtain ⟨h144, h⟩ := ite_some h
  refine And.intro h144 ?_
  show yops _ _ _ [(134, .iptr 2 (a1.map e_QValue) v38.toNat 0), (133, .int .i64 v38), (132, .isl 2 (a1.map e_QValue) false), (131, .agg [.isl 1 (((((v90.getD (0 + v89.toNat) default).f_last).f_Value).f_Nums).map e_i64) false, .str ((((v90.getD (0 + v89.toNat) default).f_last).f_Value).f_Text)]), (130, .ptr (4, 0) 0 0), (20, .ptr (4, 0) 0 0), (129, .agg [.isl 1 (((((v90.getD (0 + v89.toNat) default).f_last).f_Value).f_Nums).map e_i64) false, .str ((((v90.getD (0 + v89.toNat) default).f_last).f_Value).f_Text), .int .i64 (((v90.getD (0 + v89.toNat) default).f_last).f_Changed), .int .i64 (((v90.getD (0 + v89.toNat) default).f_last).f_Durability)]), (128, .ptr (1, 0) (0 + v89.toNat) 3), (127, .ptr (1, 0) (0 + v89.toNat) 0), (126, .int .i64 v89), (125, .msl (1, 0) 7 0 v90.length false), (0, .isl 3 (a0.map e_QKey) false), (1, .isl 2 (a1.map e_QValue) false), (2, .isl 1 (a2.map e_i64) false), (3, .int .i64 a3), (9, .ptr (0, 0) 0 0), (11, .msl (1, 0) 7 0 v90.length false), (12, .int .i64 v37), (13, .ptr (2, 0) 0 0), (14, .int .i64 v38), (15, .bool v82.1), (16, .int .i64 v82.2.1), (18, .int .i64 v89), (43, .int .i64 (if 30 < (if ((a2.map e_i64).length : Int) < (if ((a1.map e_QValue).length : Int) < ((a0.map e_QKey).length : Int) then ((a1.map e_QValue).length : Int) else ((a0.map e_QKey).length : Int)) then ((a2.map e_i64).length : Int) else (if ((a1.map e_QValue).length : Int) < ((a0.map e_QKey).length : Int) then ((a1.map e_QValue).length : Int) else ((a0.map e_QKey).length : Int))) then 30 else (if ((a2.map e_i64).length : Int) < (if ((a1.map e_QValue).length : Int) < ((a0.map e_QKey).length : Int) then ((a1.map e_QValue).length : Int) else ((a0.map e_QKey).length : Int)) then ((a2.map e_i64).length : Int) else (if ((a1.map e_QValue).length : Int) < ((a0.map e_QKey).length : Int) then ((a1.map e_QValue).length : Int) else ((a0.map e_QKey).length : Int))))), (44, .int .i64 v38)] _ _
  refine Exists.intro (e_QValue (a1.getD v38.toNat default)) (And.intro (getD_enc e_QValue _ _ (idx_ltL e_QValue h144)) (And.intro (And.intro (idx_lt h144) (Nat.le_of_ble_eq_true rfl)) ?_))
  obtain ⟨v91, h145, h⟩ := bind_some h
  refine PFn.call (f7_ok h145) (And.intro (Vw.same _ rfl) (And.intro (Vw.same _ rfl) trivial)) ?_
  refine And.intro (fun hp => hp) ?_
  show yops _ _ _ [(140, .cnd ((!v91) == false) (.int .i64 (((v90.getD (0 + v89.toNat) default).f_last).f_Durability))), (139, .cnd ((!v91) == false) (.ptr (4, 0) 0 3)), (138, .bool (!v91)), (137, .bool (!v91)), (136, .bool v91), (135, .agg [.isl 1 (((a1.getD v38.toNat default).f_Nums).map e_i64) false, .str ((a1.getD v38.toNat default).f_Text)]), (134, .iptr 2 (a1.map e_QValue) v38.toNat 0), (133, .int .i64 v38), (132, .isl 2 (a1.map e_QValue) false), (131, .agg [.isl 1 (((((v90.getD (0 + v89.toNat) default).f_last).f_Value).f_Nums).map e_i64) false, .str ((((v90.getD (0 + v89.toNat) default).f_last).f_Value).f_Text)]), (130, .ptr (4, 0) 0 0), (20, .ptr (4, 0) 0 0), (129, .agg [.isl 1 (((((v90.getD (0 + v89.toNat) default).f_last).f_Value).f_Nums).map e_i64) false, .str ((((v90.getD (0 + v89.toNat) default).f_last).f_Value).f_Text), .int .i64 (((v90.getD (0 + v89.toNat) default).f_last).f_Changed), .int .i64 (((v90.getD (0 + v89.toNat) default).f_last).f_Durability)]), (128, .ptr (1, 0) (0 + v89.toNat) 3), (127, .ptr (1, 0) (0 + v89.toNat) 0), (126, .int .i64 v89), (125, .msl (1, 0) 7 0 v90.length false), (0, .isl 3 (a0.map e_QKey) false), (1, .isl 2 (a1.map e_QValue) false), (2, .isl 1 (a2.map e_i64) false), (3, .int .i64 a3), (9, .ptr (0, 0) 0 0), (11, .msl (1, 0) 7 0 v90.length false), (12, .int .i64 v37), (13, .ptr (2, 0) 0 0), (14, .int .i64 v38), (15, .bool v82.1), (16, .int .i64 v82.2.1), (18, .int .i64 v89), (43, .int .i64 (if 30 < (if ((a2.map e_i64).length : Int) < (if ((a1.map e_QValue).length : Int) < ((a0.map e_QKey).length : Int) then ((a1.map e_QValue).length : Int) else ((a0.map e_QKey).length : Int)) then ((a2.map e_i64).length : Int) else (if ((a1.map e_QValue).length : Int) < ((a0.map e_QKey).length : Int) then ((a1.map e_QValue).length : Int) else ((a0.map e_QKey).length : Int))) then 30 else (if ((a2.map e_i64).length : Int) < (if ((a1.map e_QValue).length : Int) < ((a0.map e_QKey).length : Int) then ((a1.map e_QValue).length : Int) else ((a0.map e_QKey).length : Int)) then ((a2.map e_i64).length : Int) else (if ((a1.map e_QValue).length : Int) < ((a0.map e_QKey).length : Int) then ((a1.map e_QValue).length : Int) else ((a0.map e_QKey).length : Int))))), (44, .int .i64 v38)] _ _
  obtain ⟨h146, h⟩ := ite_some h
  refine And.intro (fun hp => (And.intro (And.intro hp hp) (h146 hp))) ?_
  refine Exists.intro (e_i64 (a2.getD v38.toNat default)) (And.intro (fun hp => And.intro (getD_enc e_i64 _ _ (idx_ltL e_i64 (h146 hp))) (And.intro hp (And.intro (idx_lt (h146 hp)) (Nat.le_of_ble_eq_true rfl)))) ?_)
  refine And.intro (fun hp => (And.intro hp hp)) ?_
  show yops _ _ _ [(145, .cnd ((!v91) == false) (.bool (((v90.getD (0 + v89.toNat) default).f_last).f_Durability != (a2.getD v38.toNat default)))), (144, .cnd ((!v91) == false) (.int .i64 (a2.getD v38.toNat default))), (143, .cnd ((!v91) == false) (.iptr 1 (a2.map e_i64) v38.toNat 0)), (142, .cnd ((!v91) == false) (.int .i64 v38)), (141, .cnd ((!v91) == false) (.isl 1 (a2.map e_i64) false)), (140, .cnd ((!v91) == false) (.int .i64 (((v90.getD (0 + v89.toNat) default).f_last).f_Durability))), (139, .cnd ((!v91) == false) (.ptr (4, 0) 0 3)), (138, .bool (!v91)), (137, .bool (!v91)), (136, .bool v91), (135, .agg [.isl 1 (((a1.getD v38.toNat default).f_Nums).map e_i64) false, .str ((a1.getD v38.toNat default).f_Text)]), (134, .iptr 2 (a1.map e_QValue) v38.toNat 0), (133, .int .i64 v38), (132, .isl 2 (a1.map e_QValue) false), (131, .agg [.isl 1 (((((v90.getD (0 + v89.toNat) default).f_last).f_Value).f_Nums).map e_i64) false, .str ((((v90.getD (0 + v89.toNat) default).f_last).f_Value).f_Text)]), (130, .ptr (4, 0) 0 0), (20, .ptr (4, 0) 0 0), (129, .agg [.isl 1 (((((v90.getD (0 + v89.toNat) default).f_last).f_Value).f_Nums).map e_i64) false, .str ((((v90.getD (0 + v89.toNat) default).f_last).f_Value).f_Text), .int .i64 (((v90.getD (0 + v89.toNat) default).f_last).f_Changed), .int .i64 (((v90.getD (0 + v89.toNat) default).f_last).f_Durability)]), (128, .ptr (1, 0) (0 + v89.toNat) 3), (127, .ptr (1, 0) (0 + v89.toNat) 0), (126, .int .i64 v89), (125, .msl (1, 0) 7 0 v90.length false), (0, .isl 3 (a0.map e_QKey) false), (1, .isl 2 (a1.map e_QValue) false), (2, .isl 1 (a2.map e_i64) false), (3, .int .i64 a3), (9, .ptr (0, 0) 0 0), (11, .msl (1, 0) 7 0 v90.length false), (12, .int .i64 v37), (13, .ptr (2, 0) 0 0), (14, .int .i64 v38), (15, .bool v82.1), (16, .int .i64 v82.2.1), (18, .int .i64 v89), (43, .int .i64 (if 30 < (if ((a2.map e_i64).length : Int) < (if ((a1.map e_QValue).length : Int) < ((a0.map e_QKey).length : Int) then ((a1.map e_QValue).length : Int) else ((a0.map e_QKey).length : Int)) then ((a2.map e_i64).length : Int) else (if ((a1.map e_QValue).length : Int) < ((a0.map e_QKey).length : Int) then ((a1.map e_QValue).length : Int) else ((a0.map e_QKey).length : Int))) then 30 else (if ((a2.map e_i64).length : Int) < (if ((a1.map e_QValue).length : Int) < ((a0.map e_QKey).length : Int) then ((a1.map e_QValue).length : Int) else ((a0.map e_QKey).length : Int)) then ((a2.map e_i64).length : Int) else (if ((a1.map e_QValue).length : Int) < ((a0.map e_QKey).length : Int) then ((a1.map e_QValue).length : Int) else ((a0.map e_QKey).length : Int))))), (44, .int .i64 v38)] _ _
  refine And.intro (fun hc => (bqf hc)) ?_
  refine LWp.sim (e := [(0, .isl 3 (a0.map e_QKey) false), (1, .isl 2 (a1.map e_QValue) false), (2, .isl 1 (a2.map e_i64) false), (3, .int .i64 a3), (9, .ptr (0, 0) 0 0), (11, .msl (1, 0) 7 0 v90.length false), (12, .int .i64 v37), (13, .ptr (2, 0) 0 0), (14, .int .i64 v38), (15, .bool v82.1), (16, .int .i64 v82.2.1), (18, .int .i64 v89), (20, .ptr (3, 0) 0 0), (21, .bool ((!v91) || (((v90.getD (0 + v89.toNat) default).f_last).f_Durability != (a2.getD v38.toNat default)))), (43, .int .i64 (if 30 < (if ((a2.map e_i64).length : Int) < (if ((a1.map e_QValue).length : Int) < ((a0.map e_QKey).length : Int) then ((a1.map e_QValue).length : Int) else ((a0.map e_QKey).length : Int)) then ((a2.map e_i64).length : Int) else (if ((a1.map e_QValue).length : Int) < ((a0.map e_QKey).length : Int) then ((a1.map e_QValue).length : Int) else ((a0.map e_QKey).length : Int))) then 30 else (if ((a2.map e_i64).length : Int) < (if ((a1.map e_QValue).length : Int) < ((a0.map e_QKey).length : Int) then ((a1.map e_QValue).length : Int) else ((a0.map e_QKey).length : Int)) then ((a2.map e_i64).length : Int) else (if ((a1.map e_QValue).length : Int) < ((a0.map e_QKey).length : Int) then ((a1.map e_QValue).length : Int) else ((a0.map e_QKey).length : Int))))), (44, .int .i64 v38)]) (L := [((0, 0), .one [.int .i64 v82.2.2.1, .int .i64 v82.2.2.2.1, .int .i64 v82.2.2.2.2.1, .int .i64 v82.2.2.2.2.2.1, .map (4, 0)]), ((1, 0), .rows 7 (v90.map e_input)), ((2, 0), .one [.int .i64 v44, .int .i64 v45, .int .i64 v46]), ((3, 0), .one [.isl 1 (((((v90.getD (0 + v89.toNat) default).f_last).f_Value).f_Nums).map e_i64) false, .str ((((v90.getD (0 + v89.toNat) default).f_last).f_Value).f_Text), .int .i64 (((v90.getD (0 + v89.toNat) default).f_last).f_Changed), .int .i64 (((v90.getD (0 + v89.toNat) default).f_last).f_Durability)]), ((4, 0), .amap (v82.2.2.2.2.2.2.map (em a_QKey a_cell)))]) (n := 5) (simI (M := [((0, 0), (0, 0)), ((1, 0), (1, 0)), ((2, 0), (2, 0)), ((3, 0), (4, 0)), ((4, 0), (3, 0))]) rfl (And.intro (Vw.same _ rfl) (And.intro (Vw.same _ rfl) (And.intro (Vw.same _ rfl) (And.intro (Vw.same _ rfl) (And.intro (Vw.ptr _ _ _ _ rfl) (And.intro (Vw.mslE rfl (by first | rfl | simp) rfl) (And.intro (Vw.same _ rfl) (And.intro (Vw.ptr _ _ _ _ rfl) (And.intro (Vw.same _ rfl) (And.intro (Vw.same _ rfl) (And.intro (Vw.same _ rfl) (And.intro (Vw.same _ rfl) (And.intro (Vw.ptr _ _ _ _ rfl) (And.intro (Vw.same _ rfl) (And.intro (Vw.same _ rfl) (And.intro (Vw.same _ rfl) trivial)))))))))))))))) (And.intro (And.intro rfl (BVw.oneL (And.intro (Vw.same _ rfl) (And.intro (Vw.same _ rfl) (And.intro (Vw.same _ rfl) (And.intro (Vw.same _ rfl) (And.intro (Vw.map _ _ rfl) trivial))))))) (And.intro (And.intro rfl (BVw.enc e_input (fun _ => rfl) _ v90)) (And.intro (And.intro rfl (BVw.oneL (And.intro (Vw.same _ rfl) (And.intro (Vw.same _ rfl) (And.intro (Vw.same _ rfl) trivial))))) (And.intro (And.intro rfl (BVw.oneL (And.intro (Vw.same _ rfl) (And.intro (Vw.same _ rfl) (And.intro (Vw.same _ rfl) (And.intro (Vw.same _ rfl) trivial)))))) (And.intro (And.intro rfl (BVw.ofMap a_QKey a_cell a_cell_nid v82.2.2.2.2.2.2)) trivial)))))) ?_
  refine seqI ?_
  refine seqI ?_
  refine regI ?_
  refine condI (v := ((!v91) || (((v90.getD (0 + v89.toNat) default).f_last).f_Durability != (a2.getD v38.toNat default)))) rfl trivial (fun h147 => ?_) (fun h147 => ?_)
  · have h := ite_tt h147 h
    refine seqI ?_
    refine regI ?_
    refine seqI ?_
    refine seqI ?_
    refine regI ?_
    refine blockI ?_
    refine LWp.sim ?_ (f3_L7_ok h)
    exact simI (M := [((0, 0), (0, 0)), ((1, 0), (1, 0)), ((2, 0), (2, 0)), ((3, 0), (3, 0)), ((4, 0), (4, 0))]) rfl (And.intro (Vw.same _ rfl) (And.intro (Vw.same _ rfl) (And.intro (Vw.same _ rfl) (And.intro (Vw.same _ rfl) (And.intro (Vw.ptr _ _ _ _ rfl) (And.intro (Vw.mslE rfl (by first | rfl | simp) rfl) (And.intro (Vw.same _ rfl) (And.intro (Vw.ptr _ _ _ _ rfl) (And.intro (Vw.same _ rfl) (And.intro (Vw.same _ rfl) (And.intro (Vw.same _ rfl) (And.intro (Vw.same _ rfl) (And.intro (Vw.ptr _ _ _ _ rfl) (And.intro (Vw.same _ rfl) (And.intro (Vw.same _ rfl) (And.intro (Vw.same _ rfl) (And.intro (Vw.same _ rfl) trivial))))))))))))))))) (And.intro (And.intro rfl (BVw.oneL (And.intro (Vw.same _ rfl) (And.intro (Vw.same _ rfl) (And.intro (Vw.same _ rfl) (And.intro (Vw.same _ rfl) (And.intro (Vw.map _ _ rfl) trivial))))))) (And.intro (And.intro rfl (BVw.enc e_input (fun _ => rfl) _ v90)) (And.intro (And.intro rfl (BVw.oneL (And.intro (Vw.same _ rfl) (And.intro (Vw.same _ rfl) (And.intro (Vw.same _ rfl) trivial))))) (And.intro (And.intro rfl (BVw.oneL (And.intro (Vw.same _ rfl) (And.intro (Vw.same _ rfl) (And.intro (Vw.same _ rfl) (And.intro (Vw.same _ rfl) trivial)))))) (And.intro (And.intro rfl (BVw.ofMap a_QKey a_cell a_cell_nid v82.2.2.2.2.2.2)) trivial)))))
  · have h := ite_ff h147 h
    refine skipI ?_
    refine LWp.sim ?_ (f3_j35_ok h)
    exact simI (M := [((0, 0), (0, 0)), ((1, 0), (1, 0)), ((2, 0), (2, 0)), ((3, 0), (4, 0))]) rfl (And.intro (Vw.same _ rfl) (And.intro (Vw.same _ rfl) (And.intro (Vw.same _ rfl) (And.intro (Vw.same _ rfl) (And.intro (Vw.ptr _ _ _ _ rfl) (And.intro (Vw.mslE rfl (by first | rfl | simp) rfl) (And.intro (Vw.same _ rfl) (And.intro (Vw.ptr _ _ _ _ rfl) (And.intro (Vw.same _ rfl) (And.intro (Vw.same _ rfl) (And.intro (Vw.same _ rfl) (And.intro (Vw.same _ rfl) (And.intro (Vw.same _ rfl) trivial))))))))))))) (And.intro (And.intro rfl (BVw.oneL (And.intro (Vw.same _ rfl) (And.intro (Vw.same _ rfl) (And.intro (Vw.same _ rfl) (And.intro (Vw.same _ rfl) (And.intro (Vw.map _ _ rfl) trivial))))))) (And.intro (And.intro rfl (BVw.enc e_input (fun _ => rfl) _ v90)) (And.intro (And.intro rfl (BVw.oneL (And.intro (Vw.same _ rfl) (And.intro (Vw.same _ rfl) (And.intro (Vw.same _ rfl) trivial))))) (And.intro (And.intro rfl (BVw.ofMap a_QKey a_cell a_cell_nid v82.2.2.2.2.2.2)) trivial))))

theorem f3_j29_ok {a0 : List G_QKey} {a1 : List G_QValue} {a2 : List Int} {a3 : Int} {v37 : Int} {v38 : Int} {v43 : List G_input} {v44 : Int} {v45 : Int} {v46 : Int} {v82 : Bool × Int × Int × Int × Int × Int × (List (G_QKey × G_cell))} {v85 : Int} {m : Option Nat} {o : ((Int × Int × Int × Int × Int × Int × (List G_input) × Int × Int × Int × (List (G_QKey × G_cell))) ⊕ Bool)} (h : S_glossatorlaw3_InputsScript_j29 m a0 a1 a2 a3 v37 v38 v43 v44 v45 v46 v82 v85 = some o) :
    LWp Try.prog f3_lay 0 f3_c2 (QBlock 1 (QSeq Try.prog f3_lay 0 f3_c1 (BodyQ 0 4 (f3_L5_env a0 a1 a2 a3) (f3_L5_hp a0 a1 a2 a3) (f3_L5_Q a0 a1 a2 a3) o))) [(0, .isl 3 (a0.map e_QKey) false), (1, .isl 2 (a1.map e_QValue) false), (2, .isl 1 (a2.map e_i64) false), (3, .int .i64 a3), (9, .ptr (0, 0) 0 0), (11, .msl (1, 0) 7 0 v43.length false), (12, .int .i64 v37), (13, .ptr (2, 0) 0 0), (14, .int .i64 v38), (15, .bool v82.1), (16, .int .i64 v82.2.1), (18, .int .i64 v85), (43, .int .i64 (if 30 < (if ((a2.map e_i64).length : Int) < (if ((a1.map e_QValue).length : Int) < ((a0.map e_QKey).length : Int) then ((a1.map e_QValue).length : Int) else ((a0.map e_QKey).length : Int)) then ((a2.map e_i64).length : Int) else (if ((a1.map e_QValue).length : Int) < ((a0.map e_QKey).length : Int) then ((a1.map e_QValue).length : Int) else ((a0.map e_QKey).length : Int))) then 30 else (if ((a2.map e_i64).length : Int) < (if ((a1.map e_QValue).length : Int) < ((a0.map e_QKey).length : Int) then ((a1.map e_QValue).length : Int) else ((a0.map e_QKey).length : Int)) then ((a2.map e_i64).length : Int) else (if ((a1.map e_QValue).length : Int) < ((a0.map e_QKey).length : Int) then ((a1.map e_QValue).length : Int) else ((a0.map e_QKey).length : Int))))), (44, .int .i64 v38)] [((0, 0), .one [.int .i64 v82.2.2.1, .int .i64 v82.2.2.2.1, .int .i64 v82.2.2.2.2.1, .int .i64 v82.2.2.2.2.2.1, .map (3, 0)]), ((1, 0), .rows 7 (v43.map e_input)), ((2, 0), .one [.int .i64 v44, .int .i64 v45, .int .i64 v46]), ((3, 0), .amap (v82.2.2.2.2.2.2.map (em a_QKey a_cell)))] 4 := by
  unfold S_glossatorlaw3_InputsScript_j29 at h
  refine seqI ?_
  refine seqI ?_
  refine regI ?_
  refine condI (v := (decide (v85 < 0))) rfl trivial (fun h139 => ?_) (fun h139 => ?_)
  · have h := ite_tt h139 h
    refine seqI ?_
    refine regI ?_
    refine regI ?_
    obtain ⟨h140, h⟩ := ite_some h
    refine And.intro h140 ?_
    show yops _ _ _ [(120, .iptr 3 (a0.map e_QKey) v38.toNat 0), (119, .int .i64 v38), (118, .isl 3 (a0.map e_QKey) false), (117, .msl (1, 0) 7 0 v43.length false), (18, .int .i64 ((v43.length : Nat) : Int)), (116, .int .i64 ((v43.length : Nat) : Int)), (115, .msl (1, 0) 7 0 v43.length false), (114, .bool (decide (v85 < 0))), (113, .int .i64 v85), (0, .isl 3 (a0.map e_QKey) false), (1, .isl 2 (a1.map e_QValue) false), (2, .isl 1 (a2.map e_i64) false), (3, .int .i64 a3), (9, .ptr (0, 0) 0 0), (11, .msl (1, 0) 7 0 v43.length false), (12, .int .i64 v37), (13, .ptr (2, 0) 0 0), (14, .int .i64 v38), (15, .bool v82.1), (16, .int .i64 v82.2.1), (18, .int .i64 v85), (43, .int .i64 (if 30 < (if ((a2.map e_i64).length : Int) < (if ((a1.map e_QValue).length : Int) < ((a0.map e_QKey).length : Int) then ((a1.map e_QValue).length : Int) else ((a0.map e_QKey).length : Int)) then ((a2.map e_i64).length : Int) else (if ((a1.map e_QValue).length : Int) < ((a0.map e_QKey).length : Int) then ((a1.map e_QValue).length : Int) else ((a0.map e_QKey).length : Int))) then 30 else (if ((a2.map e_i64).length : Int) < (if ((a1.map e_QValue).length : Int) < ((a0.map e_QKey).length : Int) then ((a1.map e_QValue).length : Int) else ((a0.map e_QKey).length : Int)) then ((a2.map e_i64).length : Int) else (if ((a1.map e_QValue).length : Int) < ((a0.map e_QKey).length : Int) then ((a1.map e_QValue).length : Int) else ((a0.map e_QKey).length : Int))))), (44, .int .i64 v38)] _ _
    refine Exists.intro (e_QKey (a0.getD v38.toNat default)) (And.intro (getD_enc e_QKey _ _ (idx_ltL e_QKey h140)) (And.intro (And.intro (idx_lt h140) (Nat.le_of_ble_eq_true rfl)) ?_))
    obtain ⟨h141, h⟩ := ite_some h
    refine And.intro (List.cons_ne_nil _ _) (And.intro (lenW e_input (by first | rfl | simp)) (Exists.intro ((v43 ++ ([(G_input.mk (G_QKey.mk ((a0.getD v38.toNat default).f_Kind) ((a0.getD v38.toNat default).f_A) ((a0.getD v38.toNat default).f_B)) (G_Input.mk (G_QValue.mk ([] : List Int) ([] : List UInt8)) 0 0))] : List G_input)).map e_input) (And.intro (appW e_input v43 ([(G_input.mk (G_QKey.mk ((a0.getD v38.toNat default).f_Kind) ((a0.getD v38.toNat default).f_A) ((a0.getD v38.toNat default).f_B)) (G_Input.mk (G_QValue.mk ([] : List Int) ([] : List UInt8)) 0 0))] : List G_input) (by first | rfl | simp)) (And.intro h141 ?_))))
    refine LWp.sim ?_ (f3_j30_ok h)
    exact simI (M := [((0, 0), (0, 0)), ((1, 0), (4, 0)), ((2, 0), (2, 0)), ((3, 0), (3, 0))]) rfl (And.intro (Vw.same _ rfl) (And.intro (Vw.same _ rfl) (And.intro (Vw.same _ rfl) (And.intro (Vw.same _ rfl) (And.intro (Vw.ptr _ _ _ _ rfl) (And.intro (Vw.mslE rfl (by first | rfl | simp) rfl) (And.intro (Vw.same _ rfl) (And.intro (Vw.ptr _ _ _ _ rfl) (And.intro (Vw.same _ rfl) (And.intro (Vw.same _ rfl) (And.intro (Vw.same _ rfl) (And.intro (Vw.same _ rfl) (And.intro (Vw.same _ rfl) (And.intro (Vw.same _ rfl) trivial)))))))))))))) (And.intro (And.intro rfl (BVw.oneL (And.intro (Vw.same _ rfl) (And.intro (Vw.same _ rfl) (And.intro (Vw.same _ rfl) (And.intro (Vw.same _ rfl) (And.intro (Vw.map _ _ rfl) trivial))))))) (And.intro (And.intro rfl (BVw.enc e_input (fun _ => rfl) _ (v43 ++ ([(G_input.mk (G_QKey.mk ((a0.getD v38.toNat default).f_Kind) ((a0.getD v38.toNat default).f_A) ((a0.getD v38.toNat default).f_B)) (G_Input.mk (G_QValue.mk ([] : List Int) ([] : List UInt8)) 0 0))] : List G_input)))) (And.intro (And.intro rfl (BVw.oneL (And.intro (Vw.same _ rfl) (And.intro (Vw.same _ rfl) (And.intro (Vw.same _ rfl) trivial))))) (And.intro (And.intro rfl (BVw.ofMap a_QKey a_cell a_cell_nid v82.2.2.2.2.2.2)) trivial))))
  · have h := ite_ff h139 h
    refine skipI ?_
    refine LWp.sim ?_ (f3_j30_ok h)
    exact simI (M := [((0, 0), (0, 0)), ((1, 0), (1, 0)), ((2, 0), (2, 0)), ((3, 0), (3, 0))]) rfl (And.intro (Vw.same _ rfl) (And.intro (Vw.same _ rfl) (And.intro (Vw.same _ rfl) (And.intro (Vw.same _ rfl) (And.intro (Vw.ptr _ _ _ _ rfl) (And.intro (Vw.mslE rfl (by first | rfl | simp) rfl) (And.intro (Vw.same _ rfl) (And.intro (Vw.ptr _ _ _ _ rfl) (And.intro (Vw.same _ rfl) (And.intro (Vw.same _ rfl) (And.intro (Vw.same _ rfl) (And.intro (Vw.same _ rfl) (And.intro (Vw.same _ rfl) (And.intro (Vw.same _ rfl) trivial)))))))))))))) (And.intro (And.intro rfl (BVw.oneL (And.intro (Vw.same _ rfl) (And.intro (Vw.same _ rfl) (And.intro (Vw.same _ rfl) (And.intro (Vw.same _ rfl) (And.intro (Vw.map _ _ rfl) trivial))))))) (And.intro (And.intro rfl (BVw.enc e_input (fun _ => rfl) _ v43)) (And.intro (And.intro rfl (BVw.oneL (And.intro (Vw.same _ rfl) (And.intro (Vw.same _ rfl) (And.intro (Vw.same _ rfl) trivial))))) (And.intro (And.intro rfl (BVw.ofMap a_QKey a_cell a_cell_nid v82.2.2.2.2.2.2)) trivial))))

theorem f3_L6_bok {a0 : List G_QKey} {a1 : List G_QValue} {a2 : List Int} {a3 : Int} {v37 : Int} {v38 : Int} {v43 : List G_input} {v44 : Int} {v45 : Int} {v46 : Int} {v82 : Bool × Int × Int × Int × Int × Int × (List (G_QKey × G_cell))} {v85 : Int} {v86 : Int} {m : Option Nat} {o : (Int × Int) ⊕ ((Int × Int × Int × Int × Int × Int × (List G_input) × Int × Int × Int × (List (G_QKey × G_cell))) ⊕ Bool)} (h : S_glossatorlaw3_InputsScript_b6 m a0 a1 a2 a3 v37 v38 v43 v44 v45 v46 v82 v85 v86 = some o) :
    LWp Try.prog f3_lay 0 f3_c3 (BodyQ 0 4 (f3_L6_env a0 a1 a2 a3 v37 v38 v43 v44 v45 v46 v82) (f3_L6_hp a0 a1 a2 a3 v37 v38 v43 v44 v45 v46 v82) (f3_L6_Q a0 a1 a2 a3) o) [(0, .isl 3 (a0.map e_QKey) false), (1, .isl 2 (a1.map e_QValue) false), (2, .isl 1 (a2.map e_i64) false), (3, .int .i64 a3), (9, .ptr (0, 0) 0 0), (11, .msl (1, 0) 7 0 v43.length false), (12, .int .i64 v37), (13, .ptr (2, 0) 0 0), (14, .int .i64 v38), (15, .bool v82.1), (16, .int .i64 v82.2.1), (18, .int .i64 v85), (43, .int .i64 (if 30 < (if ((a2.map e_i64).length : Int) < (if ((a1.map e_QValue).length : Int) < ((a0.map e_QKey).length : Int) then ((a1.map e_QValue).length : Int) else ((a0.map e_QKey).length : Int)) then ((a2.map e_i64).length : Int) else (if ((a1.map e_QValue).length : Int) < ((a0.map e_QKey).length : Int) then ((a1.map e_QValue).length : Int) else ((a0.map e_QKey).length : Int))) then 30 else (if ((a2.map e_i64).length : Int) < (if ((a1.map e_QValue).length : Int) < ((a0.map e_QKey).length : Int) then ((a1.map e_QValue).length : Int) else ((a0.map e_QKey).length : Int)) then ((a2.map e_i64).length : Int) else (if ((a1.map e_QValue).length : Int) < ((a0.map e_QKey).length : Int) then ((a1.map e_QValue).length : Int) else ((a0.map e_QKey).length : Int))))), (44, .int .i64 v38), (97, .int .i64 ((v43.length : Nat) : Int)), (98, .int .i64 v86)] [((0, 0), .one [.int .i64 v82.2.2.1, .int .i64 v82.2.2.2.1, .int .i64 v82.2.2.2.2.1, .int .i64 v82.2.2.2.2.2.1, .map (3, 0)]), ((1, 0), .rows 7 (v43.map e_input)), ((2, 0), .one [.int .i64 v44, .int .i64 v45, .int .i64 v46]), ((3, 0), .amap (v82.2.2.2.2.2.2.map (em a_QKey a_cell)))] 4 := by
  unfold S_glossatorlaw3_InputsScript_b6 at h
  refine seqI ?_
  refine regI ?_
  refine seqI ?_
  refine condI (v := (decide (v86 < ((v43.length : Nat) : Int)))) rfl trivial (fun h134 => ?_) (fun h134 => ?_)
  · have h := ite_tt h134 h
    refine skipI ?_
    refine seqI ?_
    refine blockI ?_
    refine seqI ?_
    refine regI ?_
    refine seqI ?_
    refine quietI ?_
    obtain ⟨h135, h⟩ := ite_some h
    refine And.intro h135 ?_
    show yqs _ _ [(103, .ptr (1, 0) (0 + v86.toNat) 0), (102, .int .i64 v86), (101, .msl (1, 0) 7 0 v43.length false), (19, .int .i64 v86), (100, .int .i64 v86), (99, .bool (decide (v86 < ((v43.length : Nat) : Int)))), (0, .isl 3 (a0.map e_QKey) false), (1, .isl 2 (a1.map e_QValue) false), (2, .isl 1 (a2.map e_i64) false), (3, .int .i64 a3), (9, .ptr (0, 0) 0 0), (11, .msl (1, 0) 7 0 v43.length false), (12, .int .i64 v37), (13, .ptr (2, 0) 0 0), (14, .int .i64 v38), (15, .bool v82.1), (16, .int .i64 v82.2.1), (18, .int .i64 v85), (43, .int .i64 (if 30 < (if ((a2.map e_i64).length : Int) < (if ((a1.map e_QValue).length : Int) < ((a0.map e_QKey).length : Int) then ((a1.map e_QValue).length : Int) else ((a0.map e_QKey).length : Int)) then ((a2.map e_i64).length : Int) else (if ((a1.map e_QValue).length : Int) < ((a0.map e_QKey).length : Int) then ((a1.map e_QValue).length : Int) else ((a0.map e_QKey).length : Int))) then 30 else (if ((a2.map e_i64).length : Int) < (if ((a1.map e_QValue).length : Int) < ((a0.map e_QKey).length : Int) then ((a1.map e_QValue).length : Int) else ((a0.map e_QKey).length : Int)) then ((a2.map e_i64).length : Int) else (if ((a1.map e_QValue).length : Int) < ((a0.map e_QKey).length : Int) then ((a1.map e_QValue).length : Int) else ((a0.map e_QKey).length : Int))))), (44, .int .i64 v38), (97, .int .i64 ((v43.length : Nat) : Int)), (98, .int .i64 v86)] _ _
    obtain ⟨h136, h⟩ := ite_some h
    refine Exists.intro (e_input (v43.getD (0 + v86.toNat) default)) (And.intro (getD_enc e_input _ _ h136) (And.intro (And.intro (lt_map e_input h136) (Nat.le_of_ble_eq_true rfl)) ?_))
    obtain ⟨h137, h⟩ := ite_some h
    refine And.intro h137 ?_
    show yqs _ _ [(108, .iptr 3 (a0.map e_QKey) v38.toNat 0), (107, .int .i64 v38), (106, .isl 3 (a0.map e_QKey) false), (105, .agg [.int .i64 (((v43.getD (0 + v86.toNat) default).f_key).f_Kind), .int .i64 (((v43.getD (0 + v86.toNat) default).f_key).f_A), .int .i64 (((v43.getD (0 + v86.toNat) default).f_key).f_B)]), (104, .ptr (1, 0) (0 + v86.toNat) 0), (103, .ptr (1, 0) (0 + v86.toNat) 0), (102, .int .i64 v86), (101, .msl (1, 0) 7 0 v43.length false), (19, .int .i64 v86), (100, .int .i64 v86), (99, .bool (decide (v86 < ((v43.length : Nat) : Int)))), (0, .isl 3 (a0.map e_QKey) false), (1, .isl 2 (a1.map e_QValue) false), (2, .isl 1 (a2.map e_i64) false), (3, .int .i64 a3), (9, .ptr (0, 0) 0 0), (11, .msl (1, 0) 7 0 v43.length false), (12, .int .i64 v37), (13, .ptr (2, 0) 0 0), (14, .int .i64 v38), (15, .bool v82.1), (16, .int .i64 v82.2.1), (18, .int .i64 v85), (43, .int .i64 (if 30 < (if ((a2.map e_i64).length : Int) < (if ((a1.map e_QValue).length : Int) < ((a0.map e_QKey).length : Int) then ((a1.map e_QValue).length : Int) else ((a0.map e_QKey).length : Int)) then ((a2.map e_i64).length : Int) else (if ((a1.map e_QValue).length : Int) < ((a0.map e_QKey).length : Int) then ((a1.map e_QValue).length : Int) else ((a0.map e_QKey).length : Int))) then 30 else (if ((a2.map e_i64).length : Int) < (if ((a1.map e_QValue).length : Int) < ((a0.map e_QKey).length : Int) then ((a1.map e_QValue).length : Int) else ((a0.map e_QKey).length : Int)) then ((a2.map e_i64).length : Int) else (if ((a1.map e_QValue).length : Int) < ((a0.map e_QKey).length : Int) then ((a1.map e_QValue).length : Int) else ((a0.map e_QKey).length : Int))))), (44, .int .i64 v38), (97, .int .i64 ((v43.length : Nat) : Int)), (98, .int .i64 v86)] _ _
    refine Exists.intro (e_QKey (a0.getD v38.toNat default)) (And.intro (getD_enc e_QKey _ _ (idx_ltL e_QKey h137)) (And.intro (And.intro (idx_lt h137) (Nat.le_of_ble_eq_true rfl)) ?_))
    refine LWp.sim (e := [(0, .isl 3 (a0.map e_QKey) false), (1, .isl 2 (a1.map e_QValue) false), (2, .isl 1 (a2.map e_i64) false), (3, .int .i64 a3), (9, .ptr (0, 0) 0 0), (11, .msl (1, 0) 7 0 v43.length false), (12, .int .i64 v37), (13, .ptr (2, 0) 0 0), (14, .int .i64 v38), (15, .bool v82.1), (16, .int .i64 v82.2.1), (18, .int .i64 v85), (19, .int .i64 v86), (43, .int .i64 (if 30 < (if ((a2.map e_i64).length : Int) < (if ((a1.map e_QValue).length : Int) < ((a0.map e_QKey).length : Int) then ((a1.map e_QValue).length : Int) else ((a0.map e_QKey).length : Int)) then ((a2.map e_i64).length : Int) else (if ((a1.map e_QValue).length : Int) < ((a0.map e_QKey).length : Int) then ((a1.map e_QValue).length : Int) else ((a0.map e_QKey).length : Int))) then 30 else (if ((a2.map e_i64).length : Int) < (if ((a1.map e_QValue).length : Int) < ((a0.map e_QKey).length : Int) then ((a1.map e_QValue).length : Int) else ((a0.map e_QKey).length : Int)) then ((a2.map e_i64).length : Int) else (if ((a1.map e_QValue).length : Int) < ((a0.map e_QKey).length : Int) then ((a1.map e_QValue).length : Int) else ((a0.map e_QKey).length : Int))))), (44, .int .i64 v38), (97, .int .i64 ((v43.length : Nat) : Int)), (98, .int .i64 v86), (110, .bool ((((v43.getD (0 + v86.toNat) default).f_key).f_Kind == (a0.getD v38.toNat default).f_Kind) && ((((v43.getD (0 + v86.toNat) default).f_key).f_A == (a0.getD v38.toNat default).f_A) && ((((v43.getD (0 + v86.toNat) default).f_key).f_B == (a0.getD v38.toNat default).f_B) && true))))]) (L := [((0, 0), .one [.int .i64 v82.2.2.1, .int .i64 v82.2.2.2.1, .int .i64 v82.2.2.2.2.1, .int .i64 v82.2.2.2.2.2.1, .map (3, 0)]), ((1, 0), .rows 7 (v43.map e_input)), ((2, 0), .one [.int .i64 v44, .int .i64 v45, .int .i64 v46]), ((3, 0), .amap (v82.2.2.2.2.2.2.map (em a_QKey a_cell)))]) (n := 4) (simI (M := [((0, 0), (0, 0)), ((1, 0), (1, 0)), ((2, 0), (2, 0)), ((3, 0), (3, 0))]) rfl (And.intro (Vw.same _ rfl) (And.intro (Vw.same _ rfl) (And.intro (Vw.same _ rfl) (And.intro (Vw.same _ rfl) (And.intro (Vw.ptr _ _ _ _ rfl) (And.intro (Vw.mslE rfl (by first | rfl | simp) rfl) (And.intro (Vw.same _ rfl) (And.intro (Vw.ptr _ _ _ _ rfl) (And.intro (Vw.same _ rfl) (And.intro (Vw.same _ rfl) (And.intro (Vw.same _ rfl) (And.intro (Vw.same _ rfl) (And.intro (Vw.same _ rfl) (And.intro (Vw.same _ rfl) (And.intro (Vw.same _ rfl) (And.intro (Vw.same _ rfl) (And.intro (Vw.same _ rfl) (And.intro (Vw.same _ rfl) trivial)))))))))))))))))) (And.intro (And.intro rfl (BVw.oneL (And.intro (Vw.same _ rfl) (And.intro (Vw.same _ rfl) (And.intro (Vw.same _ rfl) (And.intro (Vw.same _ rfl) (And.intro (Vw.map _ _ rfl) trivial))))))) (And.intro (And.intro rfl (BVw.enc e_input (fun _ => rfl) _ v43)) (And.intro (And.intro rfl (BVw.oneL (And.intro (Vw.same _ rfl) (And.intro (Vw.same _ rfl) (And.intro (Vw.same _ rfl) trivial))))) (And.intro (And.intro rfl (BVw.ofMap a_QKey a_cell a_cell_nid v82.2.2.2.2.2.2)) trivial))))) ?_
    refine condI (v := ((((v43.getD (0 + v86.toNat) default).f_key).f_Kind == (a0.getD v38.toNat default).f_Kind) && ((((v43.getD (0 + v86.toNat) default).f_key).f_A == (a0.getD v38.toNat default).f_A) && ((((v43.getD (0 + v86.toNat) default).f_key).f_B == (a0.getD v38.toNat default).f_B) && true)))) rfl trivial (fun h138 => ?_) (fun h138 => ?_)
    · have h := ite_tt h138 h
      refine regI ?_
      refine LWp.sim ?_ (f3_j28_ok h)
      exact simI (M := [((0, 0), (0, 0)), ((1, 0), (1, 0)), ((2, 0), (2, 0)), ((3, 0), (3, 0))]) rfl (And.intro (Vw.same _ rfl) (And.intro (Vw.same _ rfl) (And.intro (Vw.same _ rfl) (And.intro (Vw.same _ rfl) (And.intro (Vw.ptr _ _ _ _ rfl) (And.intro (Vw.mslE rfl (by first | rfl | simp) rfl) (And.intro (Vw.same _ rfl) (And.intro (Vw.ptr _ _ _ _ rfl) (And.intro (Vw.same _ rfl) (And.intro (Vw.same _ rfl) (And.intro (Vw.same _ rfl) (And.intro (Vw.same _ rfl) (And.intro (Vw.same _ rfl) (And.intro (Vw.same _ rfl) (And.intro (Vw.same _ rfl) (And.intro (Vw.same _ rfl) trivial)))))))))))))))) (And.intro (And.intro rfl (BVw.oneL (And.intro (Vw.same _ rfl) (And.intro (Vw.same _ rfl) (And.intro (Vw.same _ rfl) (And.intro (Vw.same _ rfl) (And.intro (Vw.map _ _ rfl) trivial))))))) (And.intro (And.intro rfl (BVw.enc e_input (fun _ => rfl) _ v43)) (And.intro (And.intro rfl (BVw.oneL (And.intro (Vw.same _ rfl) (And.intro (Vw.same _ rfl) (And.intro (Vw.same _ rfl) trivial))))) (And.intro (And.intro rfl (BVw.ofMap a_QKey a_cell a_cell_nid v82.2.2.2.2.2.2)) trivial))))
    · have h := ite_ff h138 h
      refine skipI ?_
      refine LWp.sim ?_ (f3_j28_ok h)
      exact simI (M := [((0, 0), (0, 0)), ((1, 0), (1, 0)), ((2, 0), (2, 0)), ((3, 0), (3, 0))]) rfl (And.intro (Vw.same _ rfl) (And.intro (Vw.same _ rfl) (And.intro (Vw.same _ rfl) (And.intro (Vw.same _ rfl) (And.intro (Vw.ptr _ _ _ _ rfl) (And.intro (Vw.mslE rfl (by first | rfl | simp) rfl) (And.intro (Vw.same _ rfl) (And.intro (Vw.ptr _ _ _ _ rfl) (And.intro (Vw.same _ rfl) (And.intro (Vw.same _ rfl) (And.intro (Vw.same _ rfl) (And.intro (Vw.same _ rfl) (And.intro (Vw.same _ rfl) (And.intro (Vw.same _ rfl) (And.intro (Vw.same _ rfl) (And.intro (Vw.same _ rfl) trivial)))))))))))))))) (And.intro (And.intro rfl (BVw.oneL (And.intro (Vw.same _ rfl) (And.intro (Vw.same _ rfl) (And.intro (Vw.same _ rfl) (And.intro (Vw.same _ rfl) (And.intro (Vw.map _ _ rfl) trivial))))))) (And.intro (And.intro rfl (BVw.enc e_input (fun _ => rfl) _ v43)) (And.intro (And.intro rfl (BVw.oneL (And.intro (Vw.same _ rfl) (And.intro (Vw.same _ rfl) (And.intro (Vw.same _ rfl) trivial))))) (And.intro (And.intro rfl (BVw.ofMap a_QKey a_cell a_cell_nid v82.2.2.2.2.2.2)) trivial))))
  · have h := ite_ff h134 h
    refine exitI ?_
    obtain ⟨o, hq, rfl⟩ := Option.map_eq_some_iff.1 h
    replace h := hq; clear hq
    refine And.intro nofun ?_
    refine LWp.sim ?_ (f3_j29_ok h)
    exact simI (M := [((0, 0), (0, 0)), ((1, 0), (1, 0)), ((2, 0), (2, 0)), ((3, 0), (3, 0))]) rfl (And.intro (Vw.same _ rfl) (And.intro (Vw.same _ rfl) (And.intro (Vw.same _ rfl) (And.intro (Vw.same _ rfl) (And.intro (Vw.ptr _ _ _ _ rfl) (And.intro (Vw.mslE rfl (by first | rfl | simp) rfl) (And.intro (Vw.same _ rfl) (And.intro (Vw.ptr _ _ _ _ rfl) (And.intro (Vw.same _ rfl) (And.intro (Vw.same _ rfl) (And.intro (Vw.same _ rfl) (And.intro (Vw.same _ rfl) (And.intro (Vw.same _ rfl) (And.intro (Vw.same _ rfl) trivial)))))))))))))) (And.intro (And.intro rfl (BVw.oneL (And.intro (Vw.same _ rfl) (And.intro (Vw.same _ rfl) (And.intro (Vw.same _ rfl) (And.intro (Vw.same _ rfl) (And.intro (Vw.map _ _ rfl) trivial))))))) (And.intro (And.intro rfl (BVw.enc e_input (fun _ => rfl) _ v43)) (And.intro (And.intro rfl (BVw.oneL (And.intro (Vw.same _ rfl) (And.intro (Vw.same _ rfl) (And.intro (Vw.same _ rfl) trivial))))) (And.intro (And.intro rfl (BVw.ofMap a_QKey a_cell a_cell_nid v82.2.2.2.2.2.2)) trivial))))

theorem f3_L6_ok {a0 : List G_QKey} {a1 : List G_QValue} {a2 : List Int} {a3 : Int} {v37 : Int} {v38 : Int} {v43 : List G_input} {v44 : Int} {v45 : Int} {v46 : Int} {v82 : Bool × Int × Int × Int × Int × Int × (List (G_QKey × G_cell))} {v85 : Int} {v86 : Int} {m : Option Nat} {o : ((Int × Int × Int × Int × Int × Int × (List G_input) × Int × Int × Int × (List (G_QKey × G_cell))) ⊕ Bool)} (h : S_glossatorlaw3_InputsScript_l6 m a0 a1 a2 a3 v37 v38 v43 v44 v45 v46 v82 v85 v86 = some o) :
    LWp Try.prog f3_lay 0 (.loop f3_c3) (QBlock 2 (QSeq Try.prog f3_lay 0 f3_c2 (QBlock 1 (QSeq Try.prog f3_lay 0 f3_c1 (BodyQ 0 4 (f3_L5_env a0 a1 a2 a3) (f3_L5_hp a0 a1 a2 a3) (f3_L5_Q a0 a1 a2 a3) o))))) [(0, .isl 3 (a0.map e_QKey) false), (1, .isl 2 (a1.map e_QValue) false), (2, .isl 1 (a2.map e_i64) false), (3, .int .i64 a3), (9, .ptr (0, 0) 0 0), (11, .msl (1, 0) 7 0 v43.length false), (12, .int .i64 v37), (13, .ptr (2, 0) 0 0), (14, .int .i64 v38), (15, .bool v82.1), (16, .int .i64 v82.2.1), (18, .int .i64 v85), (43, .int .i64 (if 30 < (if ((a2.map e_i64).length : Int) < (if ((a1.map e_QValue).length : Int) < ((a0.map e_QKey).length : Int) then ((a1.map e_QValue).length : Int) else ((a0.map e_QKey).length : Int)) then ((a2.map e_i64).length : Int) else (if ((a1.map e_QValue).length : Int) < ((a0.map e_QKey).length : Int) then ((a1.map e_QValue).length : Int) else ((a0.map e_QKey).length : Int))) then 30 else (if ((a2.map e_i64).length : Int) < (if ((a1.map e_QValue).length : Int) < ((a0.map e_QKey).length : Int) then ((a1.map e_QValue).length : Int) else ((a0.map e_QKey).length : Int)) then ((a2.map e_i64).length : Int) else (if ((a1.map e_QValue).length : Int) < ((a0.map e_QKey).length : Int) then ((a1.map e_QValue).length : Int) else ((a0.map e_QKey).length : Int))))), (44, .int .i64 v38), (97, .int .i64 ((v43.length : Nat) : Int)), (98, .int .i64 v86)] [((0, 0), .one [.int .i64 v82.2.2.1, .int .i64 v82.2.2.2.1, .int .i64 v82.2.2.2.2.1, .int .i64 v82.2.2.2.2.2.1, .map (3, 0)]), ((1, 0), .rows 7 (v43.map e_input)), ((2, 0), .one [.int .i64 v44, .int .i64 v45, .int .i64 v46]), ((3, 0), .amap (v82.2.2.2.2.2.2.map (em a_QKey a_cell)))] 4 :=
  LWp_loopM (m := m) (s := ((v85, v86) : (Int × Int))) (r := o) (fun (s : (Int × Int)) => S_glossatorlaw3_InputsScript_b6 m a0 a1 a2 a3 v37 v38 v43 v44 v45 v46 v82 s.1 s.2) (f3_L6_env a0 a1 a2 a3 v37 v38 v43 v44 v45 v46 v82) (f3_L6_hp a0 a1 a2 a3 v37 v38 v43 v44 v45 v46 v82) (f3_L6_Q a0 a1 a2 a3) (fun s o h => f3_L6_bok h) h

noncomputable def S_glossatorlaw3_InputsScript_j39 (m : Option Nat) (a3 : Int) (v37 : Int) (v39 : Int) (v40 : Int) (v41 : Int) (v42 : Int) (v47 : List (G_QKey × G_cell)) (v123 : Int) : Option Bool :=
  (S_inputs_Store_Fork m v39 v40 v41 v42 v47).bind fun v124 =>
  (S_glossatorlaw3_storeExample (some 4096)).bind fun v125 =>
  (if (v125 == true) = true then S_inputs_Store_LastChange m a3 v39 v40 v41 v42 v47 else some default).bind fun v126 =>
  (if (((v125 && (v126 == v123)) && true) == true) = true then S_inputs_Store_Revision m v39 v40 v41 v42 v47 else some default).bind fun v127 =>
  (if ((((v125 && (v126 == v123)) && true) && (v127 == v37)) == true) = true then S_inputs_Store_LastChange m a3 v39 v40 v41 v42 v47 else some default).bind fun v128 =>
  some ((((v125 && (v126 == v123)) && true) && (v127 == v37)) && (v128 == v123))

noncomputable def S_glossatorlaw3_InputsScript_j38 (m : Option Nat) (a3 : Int) (v37 : Int) (v39 : Int) (v40 : Int) (v41 : Int) (v42 : Int) (v44 : Int) (v45 : Int) (v46 : Int) (v47 : List (G_QKey × G_cell)) : Option Bool :=
  if ((decide (a3 ≥ 0)) && (decide (a3 ≤ 2))) = true then
    if (0 : Int) ≤ a3 ∧ a3 < 3 then
    if (a3 == 0) = true then
      S_glossatorlaw3_InputsScript_j39 m a3 v37 v39 v40 v41 v42 v47 v44
    else
      if (a3 == 1) = true then
        S_glossatorlaw3_InputsScript_j39 m a3 v37 v39 v40 v41 v42 v47 v45
      else
        S_glossatorlaw3_InputsScript_j39 m a3 v37 v39 v40 v41 v42 v47 v46
    else none
  else
    S_glossatorlaw3_InputsScript_j39 m a3 v37 v39 v40 v41 v42 v47 0

noncomputable def S_glossatorlaw3_InputsScript_b8 (m : Option Nat) (a3 : Int) (v37 : Int) (v39 : Int) (v40 : Int) (v41 : Int) (v42 : Int) (v43 : List G_input) (v44 : Int) (v45 : Int) (v46 : Int) (v47 : List (G_QKey × G_cell)) (v118 : Int) : Option (Int ⊕ Bool) :=
  if (decide (v118 < ((v43.length : Nat) : Int))) = true then
    if (0 : Int) ≤ v118 ∧ v118 < ((v43.length : Nat) : Int) then
    if (0 + v118.toNat) < v43.length then
    (S_inputs_Store_Get m (G_QKey.mk (((v43.getD (0 + v118.toNat) default).f_key).f_Kind) (((v43.getD (0 + v118.toNat) default).f_key).f_A) (((v43.getD (0 + v118.toNat) default).f_key).f_B)) v39 v40 v41 v42 v47).bind fun v121 =>
    (S_glossatorref3_EqualValues m (G_QValue.mk v121.1.f_Nums v121.1.f_Text) (G_QValue.mk ((((v43.getD (0 + v118.toNat) default).f_last).f_Value).f_Nums) ((((v43.getD (0 + v118.toNat) default).f_last).f_Value).f_Text))).bind fun v122 =>
    if (((!v122) || (v121.2.1 != ((v43.getD (0 + v118.toNat) default).f_last).f_Changed)) || (v121.2.2 != ((v43.getD (0 + v118.toNat) default).f_last).f_Durability)) = true then
      Option.map Sum.inr (
        some false)
    else
      some (.inl (W (v118 + 1)))
    else none
    else none
  else
    Option.map Sum.inr (
      S_glossatorlaw3_InputsScript_j38 m a3 v37 v39 v40 v41 v42 v44 v45 v46 v47)

noncomputable def S_glossatorlaw3_InputsScript_l8 (m : Option Nat) (a3 : Int) (v37 : Int) (v39 : Int) (v40 : Int) (v41 : Int) (v42 : Int) (v43 : List G_input) (v44 : Int) (v45 : Int) (v46 : Int) (v47 : List (G_QKey × G_cell)) (v118 : Int) : Option Bool := loopM m (fun (s : Int) => S_glossatorlaw3_InputsScript_b8 m a3 v37 v39 v40 v41 v42 v43 v44 v45 v46 v47 s) v118

noncomputable def S_glossatorlaw3_InputsScript_j37 (m : Option Nat) (a3 : Int) (v37 : Int) (v39 : Int) (v40 : Int) (v41 : Int) (v42 : Int) (v43 : List G_input) (v44 : Int) (v45 : Int) (v46 : Int) (v47 : List (G_QKey × G_cell)) : Option Bool :=
  S_glossatorlaw3_InputsScript_l8 m a3 v37 v39 v40 v41 v42 v43 v44 v45 v46 v47 0

noncomputable def S_glossatorlaw3_InputsScript_b5 (m : Option Nat) (a0 : List G_QKey) (a1 : List G_QValue) (a2 : List Int) (a3 : Int) (v37 : Int) (v38 : Int) (v39 : Int) (v40 : Int) (v41 : Int) (v42 : Int) (v43 : List G_input) (v44 : Int) (v45 : Int) (v46 : Int) (v47 : List (G_QKey × G_cell)) : Option ((Int × Int × Int × Int × Int × Int × (List G_input) × Int × Int × Int × (List (G_QKey × G_cell))) ⊕ Bool) :=
  if (decide (v38 < (if 30 < (if ((a2.map e_i64).length : Int) < (if ((a1.map e_QValue).length : Int) < ((a0.map e_QKey).length : Int) then ((a1.map e_QValue).length : Int) else ((a0.map e_QKey).length : Int)) then ((a2.map e_i64).length : Int) else (if ((a1.map e_QValue).length : Int) < ((a0.map e_QKey).length : Int) then ((a1.map e_QValue).length : Int) else ((a0.map e_QKey).length : Int))) then 30 else (if ((a2.map e_i64).length : Int) < (if ((a1.map e_QValue).length : Int) < ((a0.map e_QKey).length : Int) then ((a1.map e_QValue).length : Int) else ((a0.map e_QKey).length : Int)) then ((a2.map e_i64).length : Int) else (if ((a1.map e_QValue).length : Int) < ((a0.map e_QKey).length : Int) then ((a1.map e_QValue).length : Int) else ((a0.map e_QKey).length : Int)))))) = true then
    if (0 : Int) ≤ v38 ∧ v38 < ((a0.map e_QKey).length : Int) then
    if (0 : Int) ≤ v38 ∧ v38 < ((a1.map e_QValue).length : Int) then
    if (0 : Int) ≤ v38 ∧ v38 < ((a2.map e_i64).length : Int) then
    (S_inputs_Store_Set m (G_QKey.mk ((a0.getD v38.toNat default).f_Kind) ((a0.getD v38.toNat default).f_A) ((a0.getD v38.toNat default).f_B)) (G_QValue.mk ((a1.getD v38.toNat default).f_Nums) ((a1.getD v38.toNat default).f_Text)) (a2.getD v38.toNat default) v39 v40 v41 v42 v47).bind fun v82 =>
    if (0 : Int) ≤ v38 ∧ v38 < ((a0.map e_QKey).length : Int) then
    if ((((a0.getD v38.toNat default).f_Kind != 0) == false) = true → (0 : Int) ≤ v38 ∧ v38 < ((a2.map e_i64).length : Int)) then
    if (((((a0.getD v38.toNat default).f_Kind != 0) || (decide ((a2.getD v38.toNat default) < 0))) == false) = true → (0 : Int) ≤ v38 ∧ v38 < ((a2.map e_i64).length : Int)) then
    if ((((a0.getD v38.toNat default).f_Kind != 0) || (decide ((a2.getD v38.toNat default) < 0))) || (decide ((a2.getD v38.toNat default) > 2))) = true then
      if (0 : Int) ≤ v38 ∧ v38 < ((a0.map e_QKey).length : Int) then
      if ((a0.getD v38.toNat default).f_Kind != 0) = true then
        S_glossatorlaw3_InputsScript_j25 m a0 a1 a2 a3 v37 v38 v43 v44 v45 v46 v82 7
      else
        S_glossatorlaw3_InputsScript_j25 m a0 a1 a2 a3 v37 v38 v43 v44 v45 v46 v82 1
      else none
    else
      S_glossatorlaw3_InputsScript_l6 m a0 a1 a2 a3 v37 v38 v43 v44 v45 v46 v82 (-1) 0
    else none
    else none
    else none
    else none
    else none
    else none
  else
    Option.map Sum.inr (
      S_glossatorlaw3_InputsScript_j37 m a3 v37 v39 v40 v41 v42 v43 v44 v45 v46 v47)

noncomputable def S_glossatorlaw3_InputsScript_l5 (m : Option Nat) (a0 : List G_QKey) (a1 : List G_QValue) (a2 : List Int) (a3 : Int) (v37 : Int) (v38 : Int) (v39 : Int) (v40 : Int) (v41 : Int) (v42 : Int) (v43 : List G_input) (v44 : Int) (v45 : Int) (v46 : Int) (v47 : List (G_QKey × G_cell)) : Option Bool := loopM m (fun (s : (Int × Int × Int × Int × Int × Int × (List G_input) × Int × Int × Int × (List (G_QKey × G_cell)))) => S_glossatorlaw3_InputsScript_b5 m a0 a1 a2 a3 s.1 s.2.1 s.2.2.1 s.2.2.2.1 s.2.2.2.2.1 s.2.2.2.2.2.1 s.2.2.2.2.2.2.1 s.2.2.2.2.2.2.2.1 s.2.2.2.2.2.2.2.2.1 s.2.2.2.2.2.2.2.2.2.1 s.2.2.2.2.2.2.2.2.2.2) (v37, v38, v39, v40, v41, v42, v43, v44, v45, v46, v47)

def f3_L8_env (a3 : Int) (v37 : Int) (v39 : Int) (v40 : Int) (v41 : Int) (v42 : Int) (v43 : List G_input) (v44 : Int) (v45 : Int) (v46 : Int) (v47 : List (G_QKey × G_cell)) (s : Int) : Env := [(3, .int .i64 a3), (9, .ptr (0, 0) 0 0), (12, .int .i64 v37), (13, .ptr (1, 0) 0 0), (194, .msl (2, 0) 7 0 v43.length false), (195, .int .i64 ((v43.length : Nat) : Int)), (196, .int .i64 s)]
def f3_L8_hp (a3 : Int) (v37 : Int) (v39 : Int) (v40 : Int) (v41 : Int) (v42 : Int) (v43 : List G_input) (v44 : Int) (v45 : Int) (v46 : Int) (v47 : List (G_QKey × G_cell)) (s : Int) : AHeap := [((0, 0), .one [.int .i64 v39, .int .i64 v40, .int .i64 v41, .int .i64 v42, .map (3, 0)]), ((1, 0), .one [.int .i64 v44, .int .i64 v45, .int .i64 v46]), ((2, 0), .rows 7 (v43.map e_input)), ((3, 0), .amap (v47.map (em a_QKey a_cell)))]
def f3_L8_Q (a0 : List G_QKey) (a1 : List G_QValue) (a2 : List Int) (a3 : Int) (o : Bool) : Exit → Env → AHeap → Nat → Prop := (QBlock 6 (QSeq Try.prog f3_lay 0 f3_c13 (f3_Q a0 a1 a2 a3 o)))

theorem f3_j39_ok {a0 : List G_QKey} {a1 : List G_QValue} {a2 : List Int} {a3 : Int} {v37 : Int} {v39 : Int} {v40 : Int} {v41 : Int} {v42 : Int} {v47 : List (G_QKey × G_cell)} {v123 : Int} {m : Option Nat} {o : Bool} (h : S_glossatorlaw3_InputsScript_j39 m a3 v37 v39 v40 v41 v42 v47 v123 = some o) :
    LWp Try.prog f3_lay 0 f3_c15 (f3_Q a0 a1 a2 a3 o) [(3, .int .i64 a3), (9, .ptr (0, 0) 0 0), (12, .int .i64 v37), (28, .int .i64 v123)] [((0, 0), .one [.int .i64 v39, .int .i64 v40, .int .i64 v41, .int .i64 v42, .map (1, 0)]), ((1, 0), .amap (v47.map (em a_QKey a_cell)))] 2 := by
  unfold S_glossatorlaw3_InputsScript_j39 at h
  refine seqI ?_
  refine regI ?_
  obtain ⟨v124, h186, h⟩ := bind_some h
  refine bcall (k := 3) (m := 2) (L' := [((0, 0), .one [.int .i64 v39, .int .i64 v40, .int .i64 v41, .int .i64 v42, .map (1, 0)]), ((1, 0), .amap (v47.map (em a_QKey a_cell))), ((2, 0), .one [.int .i64 v39, .int .i64 v40, .int .i64 v41, .int .i64 v42, .map (3, 0)]), ((3, 0), .amap (v47.map (em a_QKey a_cell)))]) (rest := []) (R' := .ptr (2, 0) 0 0) [((0, 0), (0, 0)), ((0, 1), (1, 0))] (f10b0_ok h186) rfl rfl rfl (And.intro (Vw.ptr _ _ _ _ rfl) trivial) (And.intro (h0I (0, 0) rfl rfl (BVw.oneL (And.intro (Vw.same _ rfl) (And.intro (Vw.same _ rfl) (And.intro (Vw.same _ rfl) (And.intro (Vw.same _ rfl) (And.intro (Vw.map _ _ rfl) trivial))))))) (And.intro (h0I (1, 0) rfl rfl (BVw.ofMap a_QKey a_cell a_cell_nid v47)) trivial)) rfl (And.intro rfl (And.intro rfl (And.intro rfl (And.intro (map_ren a_QKey a_cell a_QKey_nid a_cell_nid v47) (And.intro rfl (And.intro rfl (And.intro rfl (And.intro (map_ren a_QKey a_cell a_QKey_nid a_cell_nid v47) trivial)))))))) rfl ?_
  refine seqI ?_
  refine regI ?_
  obtain ⟨v125, h187, h⟩ := bind_some h
  refine PFn.call (f4_ok h187) trivial ?_
  obtain ⟨v126, h188, h⟩ := bind_some h
  refine Or.inl (Exists.intro (.int .i64 v126) (And.intro (fun hp => And.intro (And.intro hp hp) (ACalls.same rfl (bcall (k := 3) (m := 0) (L' := [((0, 0), .one [.int .i64 v39, .int .i64 v40, .int .i64 v41, .int .i64 v42, .map (1, 0)]), ((1, 0), .amap (v47.map (em a_QKey a_cell)))]) (rest := [((2, 0), .one [.int .i64 v39, .int .i64 v40, .int .i64 v41, .int .i64 v42, .map (3, 0)]), ((3, 0), .amap (v47.map (em a_QKey a_cell)))]) (R' := .int .i64 v126) [((0, 0), (0, 0)), ((0, 1), (1, 0))] (f11b0_ok (ite_tt hp h188)) rfl rfl rfl (And.intro (Vw.ptr _ _ _ _ rfl) (And.intro (Vw.same _ rfl) trivial)) (And.intro (h0I (0, 0) rfl rfl (BVw.oneL (And.intro (Vw.same _ rfl) (And.intro (Vw.same _ rfl) (And.intro (Vw.same _ rfl) (And.intro (Vw.same _ rfl) (And.intro (Vw.map _ _ rfl) trivial))))))) (And.intro (h0I (1, 0) rfl rfl (BVw.ofMap a_QKey a_cell a_cell_nid v47)) trivial)) (nid_ren _ rfl) (And.intro rfl (And.intro rfl (And.intro rfl (And.intro (map_ren a_QKey a_cell a_QKey_nid a_cell_nid v47) trivial)))) rfl (And.intro rfl (HeapTo.get (And.intro (And.intro rfl (BVw.oneL (And.intro (Vw.same _ rfl) (And.intro (Vw.same _ rfl) (And.intro (Vw.same _ rfl) (And.intro (Vw.same _ rfl) (And.intro (Vw.map _ _ rfl) trivial))))))) (And.intro (And.intro rfl (BVw.ofMap a_QKey a_cell a_cell_nid v47)) (And.intro (And.intro rfl (BVw.oneL (And.intro (Vw.same _ rfl) (And.intro (Vw.same _ rfl) (And.intro (Vw.same _ rfl) (And.intro (Vw.same _ rfl) (And.intro (Vw.map _ _ rfl) trivial))))))) (And.intro (And.intro rfl (BVw.ofMap a_QKey a_cell a_cell_nid v47)) trivial))))))))) ?_))
  refine And.intro (fun hp => (And.intro hp hp)) ?_
  show yops _ _ _ [(246, .cnd (v125 == true) (.bool (v126 == v123))), (245, .cnd (v125 == true) (.int .i64 v123)), (244, .cnd (v125 == true) (.int .i64 v126)), (243, .cnd (v125 == true) (.int .i64 a3)), (242, .cnd (v125 == true) (.ptr (0, 0) 0 0)), (241, .bool v125), (240, .bool v125), (29, .ptr (2, 0) 0 0), (239, .ptr (2, 0) 0 0), (238, .ptr (0, 0) 0 0), (3, .int .i64 a3), (9, .ptr (0, 0) 0 0), (12, .int .i64 v37), (28, .int .i64 v123)] _ _
  refine And.intro (fun hc => (bqt hc)) ?_
  refine And.intro (fun hp => hp) ?_
  refine And.intro (fun hc => (bqt hc)) ?_
  show yops _ _ _ [(251, .bool ((v125 && (v126 == v123)) && true)), (250, .cnd ((v125 && (v126 == v123)) == true) (.bool true)), (249, .cnd ((v125 && (v126 == v123)) == true) (.ptr (2, 0) 0 0)), (248, .bool (v125 && (v126 == v123))), (247, .bool (v125 && (v126 == v123))), (246, .cnd (v125 == true) (.bool (v126 == v123))), (245, .cnd (v125 == true) (.int .i64 v123)), (244, .cnd (v125 == true) (.int .i64 v126)), (243, .cnd (v125 == true) (.int .i64 a3)), (242, .cnd (v125 == true) (.ptr (0, 0) 0 0)), (241, .bool v125), (240, .bool v125), (29, .ptr (2, 0) 0 0), (239, .ptr (2, 0) 0 0), (238, .ptr (0, 0) 0 0), (3, .int .i64 a3), (9, .ptr (0, 0) 0 0), (12, .int .i64 v37), (28, .int .i64 v123)] _ _
  obtain ⟨v127, h189, h⟩ := bind_some h
  refine Or.inl (Exists.intro (.int .i64 v127) (And.intro (fun hp => And.intro hp (ACalls.same rfl (bcall (k := 3) (m := 0) (L' := [((2, 0), .one [.int .i64 v39, .int .i64 v40, .int .i64 v41, .int .i64 v42, .map (3, 0)]), ((3, 0), .amap (v47.map (em a_QKey a_cell)))]) (rest := [((0, 0), .one [.int .i64 v39, .int .i64 v40, .int .i64 v41, .int .i64 v42, .map (1, 0)]), ((1, 0), .amap (v47.map (em a_QKey a_cell)))]) (R' := .int .i64 v127) [((0, 0), (2, 0)), ((0, 1), (3, 0))] (f8b0_ok (ite_tt hp h189)) rfl rfl rfl (And.intro (Vw.ptr _ _ _ _ rfl) trivial) (And.intro (h0I (2, 0) rfl rfl (BVw.oneL (And.intro (Vw.same _ rfl) (And.intro (Vw.same _ rfl) (And.intro (Vw.same _ rfl) (And.intro (Vw.same _ rfl) (And.intro (Vw.map _ _ rfl) trivial))))))) (And.intro (h0I (3, 0) rfl rfl (BVw.ofMap a_QKey a_cell a_cell_nid v47)) trivial)) (nid_ren _ rfl) (And.intro rfl (And.intro rfl (And.intro rfl (And.intro (map_ren a_QKey a_cell a_QKey_nid a_cell_nid v47) trivial)))) rfl (And.intro rfl (HeapTo.get (And.intro (And.intro rfl (BVw.oneL (And.intro (Vw.same _ rfl) (And.intro (Vw.same _ rfl) (And.intro (Vw.same _ rfl) (And.intro (Vw.same _ rfl) (And.intro (Vw.map _ _ rfl) trivial))))))) (And.intro (And.intro rfl (BVw.ofMap a_QKey a_cell a_cell_nid v47)) (And.intro (And.intro rfl (BVw.oneL (And.intro (Vw.same _ rfl) (And.intro (Vw.same _ rfl) (And.intro (Vw.same _ rfl) (And.intro (Vw.same _ rfl) (And.intro (Vw.map _ _ rfl) trivial))))))) (And.intro (And.intro rfl (BVw.ofMap a_QKey a_cell a_cell_nid v47)) trivial))))))))) ?_))
  refine And.intro (fun hp => (And.intro hp hp)) ?_
  show yops _ _ _ [(256, .cnd (((v125 && (v126 == v123)) && true) == true) (.bool (v127 == v37))), (255, .cnd (((v125 && (v126 == v123)) && true) == true) (.int .i64 v37)), (254, .cnd (((v125 && (v126 == v123)) && true) == true) (.int .i64 v127)), (253, .cnd (((v125 && (v126 == v123)) && true) == true) (.ptr (2, 0) 0 0)), (252, .bool ((v125 && (v126 == v123)) && true)), (251, .bool ((v125 && (v126 == v123)) && true)), (250, .cnd ((v125 && (v126 == v123)) == true) (.bool true)), (249, .cnd ((v125 && (v126 == v123)) == true) (.ptr (2, 0) 0 0)), (248, .bool (v125 && (v126 == v123))), (247, .bool (v125 && (v126 == v123))), (246, .cnd (v125 == true) (.bool (v126 == v123))), (245, .cnd (v125 == true) (.int .i64 v123)), (244, .cnd (v125 == true) (.int .i64 v126)), (243, .cnd (v125 == true) (.int .i64 a3)), (242, .cnd (v125 == true) (.ptr (0, 0) 0 0)), (241, .bool v125), (240, .bool v125), (29, .ptr (2, 0) 0 0), (239, .ptr (2, 0) 0 0), (238, .ptr (0, 0) 0 0), (3, .int .i64 a3), (9, .ptr (0, 0) 0 0), (12, .int .i64 v37), (28, .int .i64 v123)] _ _
  refine And.intro (fun hc => (bqt hc)) ?_
  obtain ⟨v128, h190, h⟩ := bind_some h
  refine Or.inl (Exists.intro (.int .i64 v128) (And.intro (fun hp => And.intro (And.intro hp hp) (ACalls.same rfl (bcall (k := 3) (m := 0) (L' := [((2, 0), .one [.int .i64 v39, .int .i64 v40, .int .i64 v41, .int .i64 v42, .map (3, 0)]), ((3, 0), .amap (v47.map (em a_QKey a_cell)))]) (rest := [((0, 0), .one [.int .i64 v39, .int .i64 v40, .int .i64 v41, .int .i64 v42, .map (1, 0)]), ((1, 0), .amap (v47.map (em a_QKey a_cell)))]) (R' := .int .i64 v128) [((0, 0), (2, 0)), ((0, 1), (3, 0))] (f11b0_ok (ite_tt hp h190)) rfl rfl rfl (And.intro (Vw.ptr _ _ _ _ rfl) (And.intro (Vw.same _ rfl) trivial)) (And.intro (h0I (2, 0) rfl rfl (BVw.oneL (And.intro (Vw.same _ rfl) (And.intro (Vw.same _ rfl) (And.intro (Vw.same _ rfl) (And.intro (Vw.same _ rfl) (And.intro (Vw.map _ _ rfl) trivial))))))) (And.intro (h0I (3, 0) rfl rfl (BVw.ofMap a_QKey a_cell a_cell_nid v47)) trivial)) (nid_ren _ rfl) (And.intro rfl (And.intro rfl (And.intro rfl (And.intro (map_ren a_QKey a_cell a_QKey_nid a_cell_nid v47) trivial)))) rfl (And.intro rfl (HeapTo.get (And.intro (And.intro rfl (BVw.oneL (And.intro (Vw.same _ rfl) (And.intro (Vw.same _ rfl) (And.intro (Vw.same _ rfl) (And.intro (Vw.same _ rfl) (And.intro (Vw.map _ _ rfl) trivial))))))) (And.intro (And.intro rfl (BVw.ofMap a_QKey a_cell a_cell_nid v47)) (And.intro (And.intro rfl (BVw.oneL (And.intro (Vw.same _ rfl) (And.intro (Vw.same _ rfl) (And.intro (Vw.same _ rfl) (And.intro (Vw.same _ rfl) (And.intro (Vw.map _ _ rfl) trivial))))))) (And.intro (And.intro rfl (BVw.ofMap a_QKey a_cell a_cell_nid v47)) trivial))))))))) ?_))
  refine And.intro (fun hp => (And.intro hp hp)) ?_
  show yops _ _ _ [(263, .cnd ((((v125 && (v126 == v123)) && true) && (v127 == v37)) == true) (.bool (v128 == v123))), (262, .cnd ((((v125 && (v126 == v123)) && true) && (v127 == v37)) == true) (.int .i64 v123)), (261, .cnd ((((v125 && (v126 == v123)) && true) && (v127 == v37)) == true) (.int .i64 v128)), (260, .cnd ((((v125 && (v126 == v123)) && true) && (v127 == v37)) == true) (.int .i64 a3)), (259, .cnd ((((v125 && (v126 == v123)) && true) && (v127 == v37)) == true) (.ptr (2, 0) 0 0)), (258, .bool (((v125 && (v126 == v123)) && true) && (v127 == v37))), (257, .bool (((v125 && (v126 == v123)) && true) && (v127 == v37))), (256, .cnd (((v125 && (v126 == v123)) && true) == true) (.bool (v127 == v37))), (255, .cnd (((v125 && (v126 == v123)) && true) == true) (.int .i64 v37)), (254, .cnd (((v125 && (v126 == v123)) && true) == true) (.int .i64 v127)), (253, .cnd (((v125 && (v126 == v123)) && true) == true) (.ptr (2, 0) 0 0)), (252, .bool ((v125 && (v126 == v123)) && true)), (251, .bool ((v125 && (v126 == v123)) && true)), (250, .cnd ((v125 && (v126 == v123)) == true) (.bool true)), (249, .cnd ((v125 && (v126 == v123)) == true) (.ptr (2, 0) 0 0)), (248, .bool (v125 && (v126 == v123))), (247, .bool (v125 && (v126 == v123))), (246, .cnd (v125 == true) (.bool (v126 == v123))), (245, .cnd (v125 == true) (.int .i64 v123)), (244, .cnd (v125 == true) (.int .i64 v126)), (243, .cnd (v125 == true) (.int .i64 a3)), (242, .cnd (v125 == true) (.ptr (0, 0) 0 0)), (241, .bool v125), (240, .bool v125), (29, .ptr (2, 0) 0 0), (239, .ptr (2, 0) 0 0), (238, .ptr (0, 0) 0 0), (3, .int .i64 a3), (9, .ptr (0, 0) 0 0), (12, .int .i64 v37), (28, .int .i64 v123)] _ _
  refine And.intro (fun hc => (bqt hc)) ?_
  refine LWp.sim (e := [(8, .bool ((((v125 && (v126 == v123)) && true) && (v127 == v37)) && (v128 == v123)))]) (L := []) (n := 0) (simI (M := []) rfl (And.intro (Vw.same _ rfl) trivial) trivial) ?_
  refine retI ?_
  cases h
  exact And.intro trivial (And.intro rfl (Vw.same _ rfl))

theorem f3_j38_ok {a0 : List G_QKey} {a1 : List G_QValue} {a2 : List Int} {a3 : Int} {v37 : Int} {v39 : Int} {v40 : Int} {v41 : Int} {v42 : Int} {v44 : Int} {v45 : Int} {v46 : Int} {v47 : List (G_QKey × G_cell)} {m : Option Nat} {o : Bool} (h : S_glossatorlaw3_InputsScript_j38 m a3 v37 v39 v40 v41 v42 v44 v45 v46 v47 = some o) :
    LWp Try.prog f3_lay 0 f3_c13 (f3_Q a0 a1 a2 a3 o) [(3, .int .i64 a3), (9, .ptr (0, 0) 0 0), (12, .int .i64 v37), (13, .ptr (1, 0) 0 0)] [((0, 0), .one [.int .i64 v39, .int .i64 v40, .int .i64 v41, .int .i64 v42, .map (2, 0)]), ((1, 0), .one [.int .i64 v44, .int .i64 v45, .int .i64 v46]), ((2, 0), .amap (v47.map (em a_QKey a_cell)))] 3 := by
  unfold S_glossatorlaw3_InputsScript_j38 at h
  refine seqI ?_
  refine regI ?_
  refine seqI ?_
  refine seqI ?_
  refine regI ?_
  refine And.intro (fun hp => hp) ?_
  show yops _ _ _ [(233, .cnd ((decide (a3 ≥ 0)) == true) (.bool (decide (a3 ≤ 2)))), (232, .cnd ((decide (a3 ≥ 0)) == true) (.int .i64 a3)), (231, .bool (decide (a3 ≥ 0))), (230, .bool (decide (a3 ≥ 0))), (229, .int .i64 a3), (28, .int .i64 0), (3, .int .i64 a3), (9, .ptr (0, 0) 0 0), (12, .int .i64 v37), (13, .ptr (1, 0) 0 0)] _ _
  refine And.intro (fun hc => (bqt hc)) ?_
  refine condI (v := ((decide (a3 ≥ 0)) && (decide (a3 ≤ 2)))) rfl trivial (fun h184 => ?_) (fun h184 => ?_)
  · have h := ite_tt h184 h
    refine regI ?_
    obtain ⟨h185, h⟩ := ite_some h
    refine And.intro h185 (And.intro (fun hj => ?_) (And.intro (fun hj => ?_) (And.intro (fun hj => ?_) trivial)))
    · have h := ite_tt (fork_eq hj) h
      refine LWp.sim ?_ (f3_j39_ok h)
      exact simI (M := [((0, 0), (0, 0)), ((1, 0), (2, 0))]) rfl (And.intro (Vw.same _ rfl) (And.intro (Vw.ptr _ _ _ _ rfl) (And.intro (Vw.same _ rfl) (And.intro (Vw.same _ rfl) trivial)))) (And.intro (And.intro rfl (BVw.oneL (And.intro (Vw.same _ rfl) (And.intro (Vw.same _ rfl) (And.intro (Vw.same _ rfl) (And.intro (Vw.same _ rfl) (And.intro (Vw.map _ _ rfl) trivial))))))) (And.intro (And.intro rfl (BVw.ofMap a_QKey a_cell a_cell_nid v47)) trivial))
    · have h := ite_ff (fork_ne hj (show ((1 : Nat) : Int) ≠ 0 by decide)) h
      have h := ite_tt (fork_eq hj) h
      refine LWp.sim ?_ (f3_j39_ok h)
      exact simI (M := [((0, 0), (0, 0)), ((1, 0), (2, 0))]) rfl (And.intro (Vw.same _ rfl) (And.intro (Vw.ptr _ _ _ _ rfl) (And.intro (Vw.same _ rfl) (And.intro (Vw.same _ rfl) trivial)))) (And.intro (And.intro rfl (BVw.oneL (And.intro (Vw.same _ rfl) (And.intro (Vw.same _ rfl) (And.intro (Vw.same _ rfl) (And.intro (Vw.same _ rfl) (And.intro (Vw.map _ _ rfl) trivial))))))) (And.intro (And.intro rfl (BVw.ofMap a_QKey a_cell a_cell_nid v47)) trivial))
    · have h := ite_ff (fork_ne hj (show ((2 : Nat) : Int) ≠ 0 by decide)) h
      have h := ite_ff (fork_ne hj (show ((2 : Nat) : Int) ≠ 1 by decide)) h
      refine LWp.sim ?_ (f3_j39_ok h)
      exact simI (M := [((0, 0), (0, 0)), ((1, 0), (2, 0))]) rfl (And.intro (Vw.same _ rfl) (And.intro (Vw.ptr _ _ _ _ rfl) (And.intro (Vw.same _ rfl) (And.intro (Vw.same _ rfl) trivial)))) (And.intro (And.intro rfl (BVw.oneL (And.intro (Vw.same _ rfl) (And.intro (Vw.same _ rfl) (And.intro (Vw.same _ rfl) (And.intro (Vw.same _ rfl) (And.intro (Vw.map _ _ rfl) trivial))))))) (And.intro (And.intro rfl (BVw.ofMap a_QKey a_cell a_cell_nid v47)) trivial))
  · have h := ite_ff h184 h
    refine skipI ?_
    refine LWp.sim ?_ (f3_j39_ok h)
    exact simI (M := [((0, 0), (0, 0)), ((1, 0), (2, 0))]) rfl (And.intro (Vw.same _ rfl) (And.intro (Vw.ptr _ _ _ _ rfl) (And.intro (Vw.same _ rfl) (And.intro (Vw.same _ rfl) trivial)))) (And.intro (And.intro rfl (BVw.oneL (And.intro (Vw.same _ rfl) (And.intro (Vw.same _ rfl) (And.intro (Vw.same _ rfl) (And.intro (Vw.same _ rfl) (And.intro (Vw.map _ _ rfl) trivial))))))) (And.intro (And.intro rfl (BVw.ofMap a_QKey a_cell a_cell_nid v47)) trivial))

theorem f3_L8_bok {a0 : List G_QKey} {a1 : List G_QValue} {a2 : List Int} {a3 : Int} {v37 : Int} {v39 : Int} {v40 : Int} {v41 : Int} {v42 : Int} {v43 : List G_input} {v44 : Int} {v45 : Int} {v46 : Int} {v47 : List (G_QKey × G_cell)} {v118 : Int} {m : Option Nat} {o : Int ⊕ Bool} (h : S_glossatorlaw3_InputsScript_b8 m a3 v37 v39 v40 v41 v42 v43 v44 v45 v46 v47 v118 = some o) :
    LWp Try.prog f3_lay 0 f3_c14 (BodyQ 0 4 (f3_L8_env a3 v37 v39 v40 v41 v42 v43 v44 v45 v46 v47) (f3_L8_hp a3 v37 v39 v40 v41 v42 v43 v44 v45 v46 v47) (f3_L8_Q a0 a1 a2 a3) o) [(3, .int .i64 a3), (9, .ptr (0, 0) 0 0), (12, .int .i64 v37), (13, .ptr (1, 0) 0 0), (194, .msl (2, 0) 7 0 v43.length false), (195, .int .i64 ((v43.length : Nat) : Int)), (196, .int .i64 v118)] [((0, 0), .one [.int .i64 v39, .int .i64 v40, .int .i64 v41, .int .i64 v42, .map (3, 0)]), ((1, 0), .one [.int .i64 v44, .int .i64 v45, .int .i64 v46]), ((2, 0), .rows 7 (v43.map e_input)), ((3, 0), .amap (v47.map (em a_QKey a_cell)))] 4 := by
  unfold S_glossatorlaw3_InputsScript_b8 at h
  refine seqI ?_
  refine regI ?_
  refine seqI ?_
  refine condI (v := (decide (v118 < ((v43.length : Nat) : Int)))) rfl trivial (fun h178 => ?_) (fun h178 => ?_)
  · have h := ite_tt h178 h
    refine skipI ?_
    refine seqI ?_
    refine blockI ?_
    refine seqI ?_
    refine regI ?_
    obtain ⟨h179, h⟩ := ite_some h
    refine And.intro h179 ?_
    obtain ⟨h180, h⟩ := ite_some h
    refine Exists.intro (e_input (v43.getD (0 + v118.toNat) default)) (And.intro (getD_enc e_input _ _ h180) (And.intro (And.intro (lt_map e_input h180) (Nat.le_of_ble_eq_true rfl)) ?_))
    refine seqI ?_
    refine regI ?_
    obtain ⟨v121, h181, h⟩ := bind_some h
    refine bcall (k := 3) (m := 0) (L' := [((0, 0), .one [.int .i64 v39, .int .i64 v40, .int .i64 v41, .int .i64 v42, .map (3, 0)]), ((3, 0), .amap (v47.map (em a_QKey a_cell)))]) (rest := [((4, 0), .one [.int .i64 (((v43.getD (0 + v118.toNat) default).f_key).f_Kind), .int .i64 (((v43.getD (0 + v118.toNat) default).f_key).f_A), .int .i64 (((v43.getD (0 + v118.toNat) default).f_key).f_B), .isl 1 (((((v43.getD (0 + v118.toNat) default).f_last).f_Value).f_Nums).map e_i64) false, .str ((((v43.getD (0 + v118.toNat) default).f_last).f_Value).f_Text), .int .i64 (((v43.getD (0 + v118.toNat) default).f_last).f_Changed), .int .i64 (((v43.getD (0 + v118.toNat) default).f_last).f_Durability)]), ((1, 0), .one [.int .i64 v44, .int .i64 v45, .int .i64 v46]), ((2, 0), .rows 7 (v43.map e_input))]) (R' := .tup [.agg [.isl 1 (v121.1.f_Nums.map e_i64) false, .str v121.1.f_Text], .int .i64 v121.2.1, .int .i64 v121.2.2]) [((0, 0), (0, 0)), ((0, 1), (3, 0))] (f9b0_ok h181) rfl rfl rfl (And.intro (Vw.ptr _ _ _ _ rfl) (And.intro (Vw.same _ rfl) trivial)) (And.intro (h0I (0, 0) rfl rfl (BVw.oneL (And.intro (Vw.same _ rfl) (And.intro (Vw.same _ rfl) (And.intro (Vw.same _ rfl) (And.intro (Vw.same _ rfl) (And.intro (Vw.map _ _ rfl) trivial))))))) (And.intro (h0I (3, 0) rfl rfl (BVw.ofMap a_QKey a_cell a_cell_nid v47)) trivial)) (nid_ren _ rfl) (And.intro rfl (And.intro rfl (And.intro rfl (And.intro (map_ren a_QKey a_cell a_QKey_nid a_cell_nid v47) trivial)))) rfl ?_
    show yops _ _ _ [(204, .tup [.agg [.isl 1 (v121.1.f_Nums.map e_i64) false, .str v121.1.f_Text], .int .i64 v121.2.1, .int .i64 v121.2.2]), (203, .agg [.int .i64 (((v43.getD (0 + v118.toNat) default).f_key).f_Kind), .int .i64 (((v43.getD (0 + v118.toNat) default).f_key).f_A), .int .i64 (((v43.getD (0 + v118.toNat) default).f_key).f_B)]), (202, .ptr (4, 0) 0 0), (201, .ptr (0, 0) 0 0), (24, .ptr (4, 0) 0 0), (199, .agg [.int .i64 (((v43.getD (0 + v118.toNat) default).f_key).f_Kind), .int .i64 (((v43.getD (0 + v118.toNat) default).f_key).f_A), .int .i64 (((v43.getD (0 + v118.toNat) default).f_key).f_B), .isl 1 (((((v43.getD (0 + v118.toNat) default).f_last).f_Value).f_Nums).map e_i64) false, .str ((((v43.getD (0 + v118.toNat) default).f_last).f_Value).f_Text), .int .i64 (((v43.getD (0 + v118.toNat) default).f_last).f_Changed), .int .i64 (((v43.getD (0 + v118.toNat) default).f_last).f_Durability)]), (198, .ptr (2, 0) (0 + v118.toNat) 0), (197, .bool (decide (v118 < ((v43.length : Nat) : Int)))), (3, .int .i64 a3), (9, .ptr (0, 0) 0 0), (12, .int .i64 v37), (13, .ptr (1, 0) 0 0), (194, .msl (2, 0) 7 0 v43.length false), (195, .int .i64 ((v43.length : Nat) : Int)), (196, .int .i64 v118)] _ _
    refine LWp.sim (e := [(3, .int .i64 a3), (9, .ptr (0, 0) 0 0), (12, .int .i64 v37), (13, .ptr (1, 0) 0 0), (24, .ptr (2, 0) 0 0), (25, .ptr (3, 0) 0 0), (26, .int .i64 v121.2.1), (27, .int .i64 v121.2.2), (194, .msl (4, 0) 7 0 v43.length false), (195, .int .i64 ((v43.length : Nat) : Int)), (196, .int .i64 v118)]) (L := [((0, 0), .one [.int .i64 v39, .int .i64 v40, .int .i64 v41, .int .i64 v42, .map (5, 0)]), ((1, 0), .one [.int .i64 v44, .int .i64 v45, .int .i64 v46]), ((2, 0), .one [.int .i64 (((v43.getD (0 + v118.toNat) default).f_key).f_Kind), .int .i64 (((v43.getD (0 + v118.toNat) default).f_key).f_A), .int .i64 (((v43.getD (0 + v118.toNat) default).f_key).f_B), .isl 1 (((((v43.getD (0 + v118.toNat) default).f_last).f_Value).f_Nums).map e_i64) false, .str ((((v43.getD (0 + v118.toNat) default).f_last).f_Value).f_Text), .int .i64 (((v43.getD (0 + v118.toNat) default).f_last).f_Changed), .int .i64 (((v43.getD (0 + v118.toNat) default).f_last).f_Durability)]), ((3, 0), .one [.isl 1 (v121.1.f_Nums.map e_i64) false, .str v121.1.f_Text]), ((4, 0), .rows 7 (v43.map e_input)), ((5, 0), .amap (v47.map (em a_QKey a_cell)))]) (n := 6) (simI (M := [((0, 0), (0, 0)), ((1, 0), (1, 0)), ((2, 0), (4, 0)), ((3, 0), (6, 0)), ((4, 0), (2, 0)), ((5, 0), (3, 0))]) rfl (And.intro (Vw.same _ rfl) (And.intro (Vw.ptr _ _ _ _ rfl) (And.intro (Vw.same _ rfl) (And.intro (Vw.ptr _ _ _ _ rfl) (And.intro (Vw.ptr _ _ _ _ rfl) (And.intro (Vw.ptr _ _ _ _ rfl) (And.intro (Vw.same _ rfl) (And.intro (Vw.same _ rfl) (And.intro (Vw.mslE rfl (by first | rfl | simp) rfl) (And.intro (Vw.same _ rfl) (And.intro (Vw.same _ rfl) trivial))))))))))) (And.intro (And.intro rfl (BVw.oneL (And.intro (Vw.same _ rfl) (And.intro (Vw.same _ rfl) (And.intro (Vw.same _ rfl) (And.intro (Vw.same _ rfl) (And.intro (Vw.map _ _ rfl) trivial))))))) (And.intro (And.intro rfl (BVw.oneL (And.intro (Vw.same _ rfl) (And.intro (Vw.same _ rfl) (And.intro (Vw.same _ rfl) trivial))))) (And.intro (And.intro rfl (BVw.oneL (And.intro (Vw.same _ rfl) (And.intro (Vw.same _ rfl) (And.intro (Vw.same _ rfl) (And.intro (Vw.same _ rfl) (And.intro (Vw.same _ rfl) (And.intro (Vw.same _ rfl) (And.intro (Vw.same _ rfl) trivial))))))))) (And.intro (And.intro rfl (BVw.oneL (And.intro (Vw.same _ rfl) (And.intro (Vw.same _ rfl) trivial)))) (And.intro (And.intro rfl (BVw.enc e_input (fun _ => rfl) _ v43)) (And.intro (And.intro rfl (BVw.ofMap a_QKey a_cell a_cell_nid v47)) trivial))))))) ?_
    refine seqI ?_
    refine regI ?_
    obtain ⟨v122, h182, h⟩ := bind_some h
    refine PFn.call (f7_ok h182) (And.intro (Vw.same _ rfl) (And.intro (Vw.same _ rfl) trivial)) ?_
    show yops _ _ _ [(212, .bool v122), (211, .agg [.isl 1 (((((v43.getD (0 + v118.toNat) default).f_last).f_Value).f_Nums).map e_i64) false, .str ((((v43.getD (0 + v118.toNat) default).f_last).f_Value).f_Text)]), (210, .ptr (2, 0) 0 3), (209, .ptr (2, 0) 0 3), (208, .agg [.isl 1 (v121.1.f_Nums.map e_i64) false, .str v121.1.f_Text]), (3, .int .i64 a3), (9, .ptr (0, 0) 0 0), (12, .int .i64 v37), (13, .ptr (1, 0) 0 0), (24, .ptr (2, 0) 0 0), (25, .ptr (3, 0) 0 0), (26, .int .i64 v121.2.1), (27, .int .i64 v121.2.2), (194, .msl (4, 0) 7 0 v43.length false), (195, .int .i64 ((v43.length : Nat) : Int)), (196, .int .i64 v118)] _ _
    refine And.intro (fun hp => hp) ?_
    show yops _ _ _ [(217, .cnd ((!v122) == false) (.ptr (2, 0) 0 5)), (216, .cnd ((!v122) == false) (.ptr (2, 0) 0 3)), (215, .cnd ((!v122) == false) (.int .i64 v121.2.1)), (214, .bool (!v122)), (213, .bool (!v122)), (212, .bool v122), (211, .agg [.isl 1 (((((v43.getD (0 + v118.toNat) default).f_last).f_Value).f_Nums).map e_i64) false, .str ((((v43.getD (0 + v118.toNat) default).f_last).f_Value).f_Text)]), (210, .ptr (2, 0) 0 3), (209, .ptr (2, 0) 0 3), (208, .agg [.isl 1 (v121.1.f_Nums.map e_i64) false, .str v121.1.f_Text]), (3, .int .i64 a3), (9, .ptr (0, 0) 0 0), (12, .int .i64 v37), (13, .ptr (1, 0) 0 0), (24, .ptr (2, 0) 0 0), (25, .ptr (3, 0) 0 0), (26, .int .i64 v121.2.1), (27, .int .i64 v121.2.2), (194, .msl (4, 0) 7 0 v43.length false), (195, .int .i64 ((v43.length : Nat) : Int)), (196, .int .i64 v118)] _ _
    refine And.intro (fun hp => hp) ?_
    refine And.intro (fun hp => (And.intro hp hp)) ?_
    refine And.intro (fun hc => (bqf hc)) ?_
    refine And.intro (fun hp => hp) ?_
    show yops _ _ _ [(224, .cnd (((!v122) || (v121.2.1 != ((v43.getD (0 + v118.toNat) default).f_last).f_Changed)) == false) (.ptr (2, 0) 0 6)), (223, .cnd (((!v122) || (v121.2.1 != ((v43.getD (0 + v118.toNat) default).f_last).f_Changed)) == false) (.ptr (2, 0) 0 3)), (222, .cnd (((!v122) || (v121.2.1 != ((v43.getD (0 + v118.toNat) default).f_last).f_Changed)) == false) (.int .i64 v121.2.2)), (221, .bool ((!v122) || (v121.2.1 != ((v43.getD (0 + v118.toNat) default).f_last).f_Changed))), (220, .bool ((!v122) || (v121.2.1 != ((v43.getD (0 + v118.toNat) default).f_last).f_Changed))), (219, .cnd ((!v122) == false) (.bool (v121.2.1 != ((v43.getD (0 + v118.toNat) default).f_last).f_Changed))), (218, .cnd ((!v122) == false) (.int .i64 (((v43.getD (0 + v118.toNat) default).f_last).f_Changed))), (217, .cnd ((!v122) == false) (.ptr (2, 0) 0 5)), (216, .cnd ((!v122) == false) (.ptr (2, 0) 0 3)), (215, .cnd ((!v122) == false) (.int .i64 v121.2.1)), (214, .bool (!v122)), (213, .bool (!v122)), (212, .bool v122), (211, .agg [.isl 1 (((((v43.getD (0 + v118.toNat) default).f_last).f_Value).f_Nums).map e_i64) false, .str ((((v43.getD (0 + v118.toNat) default).f_last).f_Value).f_Text)]), (210, .ptr (2, 0) 0 3), (209, .ptr (2, 0) 0 3), (208, .agg [.isl 1 (v121.1.f_Nums.map e_i64) false, .str v121.1.f_Text]), (3, .int .i64 a3), (9, .ptr (0, 0) 0 0), (12, .int .i64 v37), (13, .ptr (1, 0) 0 0), (24, .ptr (2, 0) 0 0), (25, .ptr (3, 0) 0 0), (26, .int .i64 v121.2.1), (27, .int .i64 v121.2.2), (194, .msl (4, 0) 7 0 v43.length false), (195, .int .i64 ((v43.length : Nat) : Int)), (196, .int .i64 v118)] _ _
    refine And.intro (fun hp => hp) ?_
    refine And.intro (fun hp => (And.intro hp hp)) ?_
    refine And.intro (fun hc => (bqf hc)) ?_
    refine LWp.sim (e := [(3, .int .i64 a3), (9, .ptr (0, 0) 0 0), (12, .int .i64 v37), (13, .ptr (1, 0) 0 0), (194, .msl (2, 0) 7 0 v43.length false), (195, .int .i64 ((v43.length : Nat) : Int)), (196, .int .i64 v118), (227, .bool (((!v122) || (v121.2.1 != ((v43.getD (0 + v118.toNat) default).f_last).f_Changed)) || (v121.2.2 != ((v43.getD (0 + v118.toNat) default).f_last).f_Durability)))]) (L := [((0, 0), .one [.int .i64 v39, .int .i64 v40, .int .i64 v41, .int .i64 v42, .map (3, 0)]), ((1, 0), .one [.int .i64 v44, .int .i64 v45, .int .i64 v46]), ((2, 0), .rows 7 (v43.map e_input)), ((3, 0), .amap (v47.map (em a_QKey a_cell)))]) (n := 4) (simI (M := [((0, 0), (0, 0)), ((1, 0), (1, 0)), ((2, 0), (4, 0)), ((3, 0), (5, 0))]) rfl (And.intro (Vw.same _ rfl) (And.intro (Vw.ptr _ _ _ _ rfl) (And.intro (Vw.same _ rfl) (And.intro (Vw.ptr _ _ _ _ rfl) (And.intro (Vw.mslE rfl (by first | rfl | simp) rfl) (And.intro (Vw.same _ rfl) (And.intro (Vw.same _ rfl) (And.intro (Vw.same _ rfl) trivial)))))))) (And.intro (And.intro rfl (BVw.oneL (And.intro (Vw.same _ rfl) (And.intro (Vw.same _ rfl) (And.intro (Vw.same _ rfl) (And.intro (Vw.same _ rfl) (And.intro (Vw.map _ _ rfl) trivial))))))) (And.intro (And.intro rfl (BVw.oneL (And.intro (Vw.same _ rfl) (And.intro (Vw.same _ rfl) (And.intro (Vw.same _ rfl) trivial))))) (And.intro (And.intro rfl (BVw.enc e_input (fun _ => rfl) _ v43)) (And.intro (And.intro rfl (BVw.ofMap a_QKey a_cell a_cell_nid v47)) trivial))))) ?_
    refine condI (v := (((!v122) || (v121.2.1 != ((v43.getD (0 + v118.toNat) default).f_last).f_Changed)) || (v121.2.2 != ((v43.getD (0 + v118.toNat) default).f_last).f_Durability))) rfl trivial (fun h183 => ?_) (fun h183 => ?_)
    · have h := ite_tt h183 h
      refine seqI ?_
      refine regI ?_
      refine retI ?_
      obtain ⟨o, hq, rfl⟩ := Option.map_eq_some_iff.1 h
      replace h := hq; clear hq
      refine And.intro nofun ?_
      cases h
      exact And.intro trivial (And.intro rfl (Vw.same _ rfl))
    · have h := ite_ff h183 h
      refine skipI ?_
      refine regI ?_
      cases h
      exact And.intro rfl (simI (M := [((0, 0), (0, 0)), ((1, 0), (1, 0)), ((2, 0), (2, 0)), ((3, 0), (3, 0))]) rfl (And.intro (Vw.same _ rfl) (And.intro (Vw.ptr _ _ _ _ rfl) (And.intro (Vw.same _ rfl) (And.intro (Vw.ptr _ _ _ _ rfl) (And.intro (Vw.mslE rfl (by first | rfl | simp) rfl) (And.intro (Vw.same _ rfl) (And.intro (Vw.same _ rfl) trivial))))))) (And.intro (And.intro rfl (BVw.oneL (And.intro (Vw.same _ rfl) (And.intro (Vw.same _ rfl) (And.intro (Vw.same _ rfl) (And.intro (Vw.same _ rfl) (And.intro (Vw.map _ _ rfl) trivial))))))) (And.intro (And.intro rfl (BVw.oneL (And.intro (Vw.same _ rfl) (And.intro (Vw.same _ rfl) (And.intro (Vw.same _ rfl) trivial))))) (And.intro (And.intro rfl (BVw.enc e_input (fun _ => rfl) _ v43)) (And.intro (And.intro rfl (BVw.ofMap a_QKey a_cell a_cell_nid v47)) trivial)))))
  · have h := ite_ff h178 h
    refine exitI ?_
    obtain ⟨o, hq, rfl⟩ := Option.map_eq_some_iff.1 h
    replace h := hq; clear hq
    refine And.intro nofun ?_
    refine LWp.sim ?_ (f3_j38_ok h)
    exact simI (M := [((0, 0), (0, 0)), ((1, 0), (1, 0)), ((2, 0), (3, 0))]) rfl (And.intro (Vw.same _ rfl) (And.intro (Vw.ptr _ _ _ _ rfl) (And.intro (Vw.same _ rfl) (And.intro (Vw.ptr _ _ _ _ rfl) trivial)))) (And.intro (And.intro rfl (BVw.oneL (And.intro (Vw.same _ rfl) (And.intro (Vw.same _ rfl) (And.intro (Vw.same _ rfl) (And.intro (Vw.same _ rfl) (And.intro (Vw.map _ _ rfl) trivial))))))) (And.intro (And.intro rfl (BVw.oneL (And.intro (Vw.same _ rfl) (And.intro (Vw.same _ rfl) (And.intro (Vw.same _ rfl) trivial))))) (And.intro (And.intro rfl (BVw.ofMap a_QKey a_cell a_cell_nid v47)) trivial)))

theorem f3_L8_ok {a0 : List G_QKey} {a1 : List G_QValue} {a2 : List Int} {a3 : Int} {v37 : Int} {v39 : Int} {v40 : Int} {v41 : Int} {v42 : Int} {v43 : List G_input} {v44 : Int} {v45 : Int} {v46 : Int} {v47 : List (G_QKey × G_cell)} {v118 : Int} {m : Option Nat} {o : Bool} (h : S_glossatorlaw3_InputsScript_l8 m a3 v37 v39 v40 v41 v42 v43 v44 v45 v46 v47 v118 = some o) :
    LWp Try.prog f3_lay 0 (.loop f3_c14) (QBlock 6 (QSeq Try.prog f3_lay 0 f3_c13 (f3_Q a0 a1 a2 a3 o))) [(3, .int .i64 a3), (9, .ptr (0, 0) 0 0), (12, .int .i64 v37), (13, .ptr (1, 0) 0 0), (194, .msl (2, 0) 7 0 v43.length false), (195, .int .i64 ((v43.length : Nat) : Int)), (196, .int .i64 v118)] [((0, 0), .one [.int .i64 v39, .int .i64 v40, .int .i64 v41, .int .i64 v42, .map (3, 0)]), ((1, 0), .one [.int .i64 v44, .int .i64 v45, .int .i64 v46]), ((2, 0), .rows 7 (v43.map e_input)), ((3, 0), .amap (v47.map (em a_QKey a_cell)))] 4 :=
  LWp_loopM (m := m) (s := (v118 : Int)) (r := o) (fun (s : Int) => S_glossatorlaw3_InputsScript_b8 m a3 v37 v39 v40 v41 v42 v43 v44 v45 v46 v47 s) (f3_L8_env a3 v37 v39 v40 v41 v42 v43 v44 v45 v46 v47) (f3_L8_hp a3 v37 v39 v40 v41 v42 v43 v44 v45 v46 v47) (f3_L8_Q a0 a1 a2 a3) (fun s o h => f3_L8_bok h) h

theorem f3_j37_ok {a0 : List G_QKey} {a1 : List G_QValue} {a2 : List Int} {a3 : Int} {v37 : Int} {v39 : Int} {v40 : Int} {v41 : Int} {v42 : Int} {v43 : List G_input} {v44 : Int} {v45 : Int} {v46 : Int} {v47 : List (G_QKey × G_cell)} {m : Option Nat} {o : Bool} (h : S_glossatorlaw3_InputsScript_j37 m a3 v37 v39 v40 v41 v42 v43 v44 v45 v46 v47 = some o) :
    LWp Try.prog f3_lay 0 f3_c7 (f3_Q a0 a1 a2 a3 o) [(3, .int .i64 a3), (9, .ptr (0, 0) 0 0), (11, .msl (1, 0) 7 0 v43.length false), (12, .int .i64 v37), (13, .ptr (2, 0) 0 0)] [((0, 0), .one [.int .i64 v39, .int .i64 v40, .int .i64 v41, .int .i64 v42, .map (3, 0)]), ((1, 0), .rows 7 (v43.map e_input)), ((2, 0), .one [.int .i64 v44, .int .i64 v45, .int .i64 v46]), ((3, 0), .amap (v47.map (em a_QKey a_cell)))] 4 := by
  unfold S_glossatorlaw3_InputsScript_j37 at h
  refine seqI ?_
  refine seqI ?_
  refine regI ?_
  refine blockI ?_
  refine LWp.sim ?_ (f3_L8_ok h)
  exact simI (M := [((0, 0), (0, 0)), ((1, 0), (2, 0)), ((2, 0), (1, 0)), ((3, 0), (3, 0))]) rfl (And.intro (Vw.same _ rfl) (And.intro (Vw.ptr _ _ _ _ rfl) (And.intro (Vw.same _ rfl) (And.intro (Vw.ptr _ _ _ _ rfl) (And.intro (Vw.mslE rfl (by first | rfl | simp) rfl) (And.intro (Vw.same _ rfl) (And.intro (Vw.same _ rfl) trivial))))))) (And.intro (And.intro rfl (BVw.oneL (And.intro (Vw.same _ rfl) (And.intro (Vw.same _ rfl) (And.intro (Vw.same _ rfl) (And.intro (Vw.same _ rfl) (And.intro (Vw.map _ _ rfl) trivial))))))) (And.intro (And.intro rfl (BVw.oneL (And.intro (Vw.same _ rfl) (And.intro (Vw.same _ rfl) (And.intro (Vw.same _ rfl) trivial))))) (And.intro (And.intro rfl (BVw.enc e_input (fun _ => rfl) _ v43)) (And.intro (And.intro rfl (BVw.ofMap a_QKey a_cell a_cell_nid v47)) trivial))))

theorem f3_L5_bok {a0 : List G_QKey} {a1 : List G_QValue} {a2 : List Int} {a3 : Int} {v37 : Int} {v38 : Int} {v39 : Int} {v40 : Int} {v41 : Int} {v42 : Int} {v43 : List G_input} {v44 : Int} {v45 : Int} {v46 : Int} {v47 : List (G_QKey × G_cell)} {m : Option Nat} {o : (Int × Int × Int × Int × Int × Int × (List G_input) × Int × Int × Int × (List (G_QKey × G_cell))) ⊕ Bool} (h : S_glossatorlaw3_InputsScript_b5 m a0 a1 a2 a3 v37 v38 v39 v40 v41 v42 v43 v44 v45 v46 v47 = some o) :
    LWp Try.prog f3_lay 0 f3_c12 (BodyQ 0 4 (f3_L5_env a0 a1 a2 a3) (f3_L5_hp a0 a1 a2 a3) (f3_L5_Q a0 a1 a2 a3) o) [(0, .isl 3 (a0.map e_QKey) false), (1, .isl 2 (a1.map e_QValue) false), (2, .isl 1 (a2.map e_i64) false), (3, .int .i64 a3), (9, .ptr (0, 0) 0 0), (11, .msl (1, 0) 7 0 v43.length false), (12, .int .i64 v37), (13, .ptr (2, 0) 0 0), (43, .int .i64 (if 30 < (if ((a2.map e_i64).length : Int) < (if ((a1.map e_QValue).length : Int) < ((a0.map e_QKey).length : Int) then ((a1.map e_QValue).length : Int) else ((a0.map e_QKey).length : Int)) then ((a2.map e_i64).length : Int) else (if ((a1.map e_QValue).length : Int) < ((a0.map e_QKey).length : Int) then ((a1.map e_QValue).length : Int) else ((a0.map e_QKey).length : Int))) then 30 else (if ((a2.map e_i64).length : Int) < (if ((a1.map e_QValue).length : Int) < ((a0.map e_QKey).length : Int) then ((a1.map e_QValue).length : Int) else ((a0.map e_QKey).length : Int)) then ((a2.map e_i64).length : Int) else (if ((a1.map e_QValue).length : Int) < ((a0.map e_QKey).length : Int) then ((a1.map e_QValue).length : Int) else ((a0.map e_QKey).length : Int))))), (44, .int .i64 v38)] [((0, 0), .one [.int .i64 v39, .int .i64 v40, .int .i64 v41, .int .i64 v42, .map (3, 0)]), ((1, 0), .rows 7 (v43.map e_input)), ((2, 0), .one [.int .i64 v44, .int .i64 v45, .int .i64 v46]), ((3, 0), .amap (v47.map (em a_QKey a_cell)))] 4 := by
  unfold S_glossatorlaw3_InputsScript_b5 at h
  refine seqI ?_
  refine regI ?_
  refine seqI ?_
  refine condI (v := (decide (v38 < (if 30 < (if ((a2.map e_i64).length : Int) < (if ((a1.map e_QValue).length : Int) < ((a0.map e_QKey).length : Int) then ((a1.map e_QValue).length : Int) else ((a0.map e_QKey).length : Int)) then ((a2.map e_i64).length : Int) else (if ((a1.map e_QValue).length : Int) < ((a0.map e_QKey).length : Int) then ((a1.map e_QValue).length : Int) else ((a0.map e_QKey).length : Int))) then 30 else (if ((a2.map e_i64).length : Int) < (if ((a1.map e_QValue).length : Int) < ((a0.map e_QKey).length : Int) then ((a1.map e_QValue).length : Int) else ((a0.map e_QKey).length : Int)) then ((a2.map e_i64).length : Int) else (if ((a1.map e_QValue).length : Int) < ((a0.map e_QKey).length : Int) then ((a1.map e_QValue).length : Int) else ((a0.map e_QKey).length : Int))))))) rfl trivial (fun h112 => ?_) (fun h112 => ?_)
  · have h := ite_tt h112 h
    refine skipI ?_
    refine seqI ?_
    refine blockI ?_
    refine seqI ?_
    refine regI ?_
    refine seqI ?_
    refine drawO rfl ?_
    obtain ⟨h113, h⟩ := ite_some h
    refine And.intro h113 ?_
    show yops _ _ _ [(51, .iptr 3 (a0.map e_QKey) v38.toNat 0), (50, .int .i64 v38), (49, .isl 3 (a0.map e_QKey) false), (48, .ptr (0, 0) 0 0), (14, .int .i64 v38), (46, .int .i64 v38), (45, .bool (decide (v38 < (if 30 < (if ((a2.map e_i64).length : Int) < (if ((a1.map e_QValue).length : Int) < ((a0.map e_QKey).length : Int) then ((a1.map e_QValue).length : Int) else ((a0.map e_QKey).length : Int)) then ((a2.map e_i64).length : Int) else (if ((a1.map e_QValue).length : Int) < ((a0.map e_QKey).length : Int) then ((a1.map e_QValue).length : Int) else ((a0.map e_QKey).length : Int))) then 30 else (if ((a2.map e_i64).length : Int) < (if ((a1.map e_QValue).length : Int) < ((a0.map e_QKey).length : Int) then ((a1.map e_QValue).length : Int) else ((a0.map e_QKey).length : Int)) then ((a2.map e_i64).length : Int) else (if ((a1.map e_QValue).length : Int) < ((a0.map e_QKey).length : Int) then ((a1.map e_QValue).length : Int) else ((a0.map e_QKey).length : Int))))))), (0, .isl 3 (a0.map e_QKey) false), (1, .isl 2 (a1.map e_QValue) false), (2, .isl 1 (a2.map e_i64) false), (3, .int .i64 a3), (9, .ptr (0, 0) 0 0), (11, .msl (1, 0) 7 0 v43.length false), (12, .int .i64 v37), (13, .ptr (2, 0) 0 0), (43, .int .i64 (if 30 < (if ((a2.map e_i64).length : Int) < (if ((a1.map e_QValue).length : Int) < ((a0.map e_QKey).length : Int) then ((a1.map e_QValue).length : Int) else ((a0.map e_QKey).length : Int)) then ((a2.map e_i64).length : Int) else (if ((a1.map e_QValue).length : Int) < ((a0.map e_QKey).length : Int) then ((a1.map e_QValue).length : Int) else ((a0.map e_QKey).length : Int))) then 30 else (if ((a2.map e_i64).length : Int) < (if ((a1.map e_QValue).length : Int) < ((a0.map e_QKey).length : Int) then ((a1.map e_QValue).length : Int) else ((a0.map e_QKey).length : Int)) then ((a2.map e_i64).length : Int) else (if ((a1.map e_QValue).length : Int) < ((a0.map e_QKey).length : Int) then ((a1.map e_QValue).length : Int) else ((a0.map e_QKey).length : Int))))), (44, .int .i64 v38)] _ _
    refine Exists.intro (e_QKey (a0.getD v38.toNat default)) (And.intro (getD_enc e_QKey _ _ (idx_ltL e_QKey h113)) (And.intro (And.intro (idx_lt h113) (Nat.le_of_ble_eq_true rfl)) ?_))
    obtain ⟨h114, h⟩ := ite_some h
    refine And.intro h114 ?_
    refine Exists.intro (e_QValue (a1.getD v38.toNat default)) (And.intro (getD_enc e_QValue _ _ (idx_ltL e_QValue h114)) (And.intro (And.intro (idx_lt h114) (Nat.le_of_ble_eq_true rfl)) ?_))
    obtain ⟨h115, h⟩ := ite_some h
    refine And.intro h115 ?_
    show yops _ _ _ [(59, .iptr 1 (a2.map e_i64) v38.toNat 0), (58, .int .i64 v38), (57, .isl 1 (a2.map e_i64) false), (56, .agg [.isl 1 (((a1.getD v38.toNat default).f_Nums).map e_i64) false, .str ((a1.getD v38.toNat default).f_Text)]), (55, .iptr 2 (a1.map e_QValue) v38.toNat 0), (54, .int .i64 v38), (53, .isl 2 (a1.map e_QValue) false), (52, .agg [.int .i64 ((a0.getD v38.toNat default).f_Kind), .int .i64 ((a0.getD v38.toNat default).f_A), .int .i64 ((a0.getD v38.toNat default).f_B)]), (51, .iptr 3 (a0.map e_QKey) v38.toNat 0), (50, .int .i64 v38), (49, .isl 3 (a0.map e_QKey) false), (48, .ptr (0, 0) 0 0), (14, .int .i64 v38), (46, .int .i64 v38), (45, .bool (decide (v38 < (if 30 < (if ((a2.map e_i64).length : Int) < (if ((a1.map e_QValue).length : Int) < ((a0.map e_QKey).length : Int) then ((a1.map e_QValue).length : Int) else ((a0.map e_QKey).length : Int)) then ((a2.map e_i64).length : Int) else (if ((a1.map e_QValue).length : Int) < ((a0.map e_QKey).length : Int) then ((a1.map e_QValue).length : Int) else ((a0.map e_QKey).length : Int))) then 30 else (if ((a2.map e_i64).length : Int) < (if ((a1.map e_QValue).length : Int) < ((a0.map e_QKey).length : Int) then ((a1.map e_QValue).length : Int) else ((a0.map e_QKey).length : Int)) then ((a2.map e_i64).length : Int) else (if ((a1.map e_QValue).length : Int) < ((a0.map e_QKey).length : Int) then ((a1.map e_QValue).length : Int) else ((a0.map e_QKey).length : Int))))))), (0, .isl 3 (a0.map e_QKey) false), (1, .isl 2 (a1.map e_QValue) false), (2, .isl 1 (a2.map e_i64) false), (3, .int .i64 a3), (9, .ptr (0, 0) 0 0), (11, .msl (1, 0) 7 0 v43.length false), (12, .int .i64 v37), (13, .ptr (2, 0) 0 0), (43, .int .i64 (if 30 < (if ((a2.map e_i64).length : Int) < (if ((a1.map e_QValue).length : Int) < ((a0.map e_QKey).length : Int) then ((a1.map e_QValue).length : Int) else ((a0.map e_QKey).length : Int)) then ((a2.map e_i64).length : Int) else (if ((a1.map e_QValue).length : Int) < ((a0.map e_QKey).length : Int) then ((a1.map e_QValue).length : Int) else ((a0.map e_QKey).length : Int))) then 30 else (if ((a2.map e_i64).length : Int) < (if ((a1.map e_QValue).length : Int) < ((a0.map e_QKey).length : Int) then ((a1.map e_QValue).length : Int) else ((a0.map e_QKey).length : Int)) then ((a2.map e_i64).length : Int) else (if ((a1.map e_QValue).length : Int) < ((a0.map e_QKey).length : Int) then ((a1.map e_QValue).length : Int) else ((a0.map e_QKey).length : Int))))), (44, .int .i64 v38)] _ _
    refine Exists.intro (e_i64 (a2.getD v38.toNat default)) (And.intro (getD_enc e_i64 _ _ (idx_ltL e_i64 h115)) (And.intro (And.intro (idx_lt h115) (Nat.le_of_ble_eq_true rfl)) ?_))
    obtain ⟨v82, h116, h⟩ := bind_some h
    refine bcall (k := 3) (m := 0) (L' := [((0, 0), .one [.int .i64 v82.2.2.1, .int .i64 v82.2.2.2.1, .int .i64 v82.2.2.2.2.1, .int .i64 v82.2.2.2.2.2.1, .map (3, 0)]), ((3, 0), .amap (v82.2.2.2.2.2.2.map (em a_QKey a_cell)))]) (rest := [((1, 0), .rows 7 (v43.map e_input)), ((2, 0), .one [.int .i64 v44, .int .i64 v45, .int .i64 v46])]) (R' := .tup [.bool v82.1, .int .i64 v82.2.1]) [((0, 0), (0, 0)), ((0, 1), (3, 0))] (f6b0_ok h116) rfl rfl rfl (And.intro (Vw.ptr _ _ _ _ rfl) (And.intro (Vw.same _ rfl) (And.intro (Vw.same _ rfl) (And.intro (Vw.same _ rfl) trivial)))) (And.intro (h0I (0, 0) rfl rfl (BVw.oneL (And.intro (Vw.same _ rfl) (And.intro (Vw.same _ rfl) (And.intro (Vw.same _ rfl) (And.intro (Vw.same _ rfl) (And.intro (Vw.map _ _ rfl) trivial))))))) (And.intro (h0I (3, 0) rfl rfl (BVw.ofMap a_QKey a_cell a_cell_nid v47)) trivial)) (nid_ren _ rfl) (And.intro rfl (And.intro rfl (And.intro rfl (And.intro (map_ren a_QKey a_cell a_QKey_nid a_cell_nid v82.2.2.2.2.2.2) trivial)))) rfl ?_
    refine LWp.sim (e := [(0, .isl 3 (a0.map e_QKey) false), (1, .isl 2 (a1.map e_QValue) false), (2, .isl 1 (a2.map e_i64) false), (3, .int .i64 a3), (9, .ptr (0, 0) 0 0), (11, .msl (1, 0) 7 0 v43.length false), (12, .int .i64 v37), (13, .ptr (2, 0) 0 0), (14, .int .i64 v38), (15, .bool v82.1), (16, .int .i64 v82.2.1), (43, .int .i64 (if 30 < (if ((a2.map e_i64).length : Int) < (if ((a1.map e_QValue).length : Int) < ((a0.map e_QKey).length : Int) then ((a1.map e_QValue).length : Int) else ((a0.map e_QKey).length : Int)) then ((a2.map e_i64).length : Int) else (if ((a1.map e_QValue).length : Int) < ((a0.map e_QKey).length : Int) then ((a1.map e_QValue).length : Int) else ((a0.map e_QKey).length : Int))) then 30 else (if ((a2.map e_i64).length : Int) < (if ((a1.map e_QValue).length : Int) < ((a0.map e_QKey).length : Int) then ((a1.map e_QValue).length : Int) else ((a0.map e_QKey).length : Int)) then ((a2.map e_i64).length : Int) else (if ((a1.map e_QValue).length : Int) < ((a0.map e_QKey).length : Int) then ((a1.map e_QValue).length : Int) else ((a0.map e_QKey).length : Int))))), (44, .int .i64 v38)]) (L := [((0, 0), .one [.int .i64 v82.2.2.1, .int .i64 v82.2.2.2.1, .int .i64 v82.2.2.2.2.1, .int .i64 v82.2.2.2.2.2.1, .map (3, 0)]), ((1, 0), .rows 7 (v43.map e_input)), ((2, 0), .one [.int .i64 v44, .int .i64 v45, .int .i64 v46]), ((3, 0), .amap (v82.2.2.2.2.2.2.map (em a_QKey a_cell)))]) (n := 4) (simI (M := [((0, 0), (0, 0)), ((1, 0), (1, 0)), ((2, 0), (2, 0)), ((3, 0), (3, 0))]) rfl (And.intro (Vw.same _ rfl) (And.intro (Vw.same _ rfl) (And.intro (Vw.same _ rfl) (And.intro (Vw.same _ rfl) (And.intro (Vw.ptr _ _ _ _ rfl) (And.intro (Vw.mslE rfl (by first | rfl | simp) rfl) (And.intro (Vw.same _ rfl) (And.intro (Vw.ptr _ _ _ _ rfl) (And.intro (Vw.same _ rfl) (And.intro (Vw.same _ rfl) (And.intro (Vw.same _ rfl) (And.intro (Vw.same _ rfl) (And.intro (Vw.same _ rfl) trivial))))))))))))) (And.intro (And.intro rfl (BVw.oneL (And.intro (Vw.same _ rfl) (And.intro (Vw.same _ rfl) (And.intro (Vw.same _ rfl) (And.intro (Vw.same _ rfl) (And.intro (Vw.map _ _ rfl) trivial))))))) (And.intro (And.intro rfl (BVw.enc e_input (fun _ => rfl) _ v43)) (And.intro (And.intro rfl (BVw.oneL (And.intro (Vw.same _ rfl) (And.intro (Vw.same _ rfl) (And.intro (Vw.same _ rfl) trivial))))) (And.intro (And.intro rfl (BVw.ofMap a_QKey a_cell a_cell_nid v82.2.2.2.2.2.2)) trivial))))) ?_
    refine seqI ?_
    refine seqI ?_
    refine regI ?_
    obtain ⟨h117, h⟩ := ite_some h
    refine And.intro h117 ?_
    refine Exists.intro (e_QKey (a0.getD v38.toNat default)) (And.intro (getD_enc e_QKey _ _ (idx_ltL e_QKey h117)) (And.intro (And.intro (idx_lt h117) (Nat.le_of_ble_eq_true rfl)) ?_))
    obtain ⟨h118, h⟩ := ite_some h
    refine And.intro (fun hp => (And.intro (And.intro hp hp) (h118 hp))) ?_
    show yops _ _ _ [(73, .cnd (((a0.getD v38.toNat default).f_Kind != 0) == false) (.iptr 1 (a2.map e_i64) v38.toNat 0)), (72, .cnd (((a0.getD v38.toNat default).f_Kind != 0) == false) (.int .i64 v38)), (71, .cnd (((a0.getD v38.toNat default).f_Kind != 0) == false) (.isl 1 (a2.map e_i64) false)), (70, .bool ((a0.getD v38.toNat default).f_Kind != 0)), (69, .bool ((a0.getD v38.toNat default).f_Kind != 0)), (68, .int .i64 ((a0.getD v38.toNat default).f_Kind)), (67, .iptr 3 (a0.map e_QKey) v38.toNat 0), (66, .iptr 3 (a0.map e_QKey) v38.toNat 0), (65, .int .i64 v38), (64, .isl 3 (a0.map e_QKey) false), (0, .isl 3 (a0.map e_QKey) false), (1, .isl 2 (a1.map e_QValue) false), (2, .isl 1 (a2.map e_i64) false), (3, .int .i64 a3), (9, .ptr (0, 0) 0 0), (11, .msl (1, 0) 7 0 v43.length false), (12, .int .i64 v37), (13, .ptr (2, 0) 0 0), (14, .int .i64 v38), (15, .bool v82.1), (16, .int .i64 v82.2.1), (43, .int .i64 (if 30 < (if ((a2.map e_i64).length : Int) < (if ((a1.map e_QValue).length : Int) < ((a0.map e_QKey).length : Int) then ((a1.map e_QValue).length : Int) else ((a0.map e_QKey).length : Int)) then ((a2.map e_i64).length : Int) else (if ((a1.map e_QValue).length : Int) < ((a0.map e_QKey).length : Int) then ((a1.map e_QValue).length : Int) else ((a0.map e_QKey).length : Int))) then 30 else (if ((a2.map e_i64).length : Int) < (if ((a1.map e_QValue).length : Int) < ((a0.map e_QKey).length : Int) then ((a1.map e_QValue).length : Int) else ((a0.map e_QKey).length : Int)) then ((a2.map e_i64).length : Int) else (if ((a1.map e_QValue).length : Int) < ((a0.map e_QKey).length : Int) then ((a1.map e_QValue).length : Int) else ((a0.map e_QKey).length : Int))))), (44, .int .i64 v38)] _ _
    refine Exists.intro (e_i64 (a2.getD v38.toNat default)) (And.intro (fun hp => And.intro (getD_enc e_i64 _ _ (idx_ltL e_i64 (h118 hp))) (And.intro hp (And.intro (idx_lt (h118 hp)) (Nat.le_of_ble_eq_true rfl)))) ?_)
    refine And.intro (fun hp => hp) ?_
    refine And.intro (fun hc => (bqf hc)) ?_
    obtain ⟨h119, h⟩ := ite_some h
    refine And.intro (fun hp => (And.intro (And.intro hp hp) (h119 hp))) ?_
    show yops _ _ _ [(80, .cnd ((((a0.getD v38.toNat default).f_Kind != 0) || (decide ((a2.getD v38.toNat default) < 0))) == false) (.iptr 1 (a2.map e_i64) v38.toNat 0)), (79, .cnd ((((a0.getD v38.toNat default).f_Kind != 0) || (decide ((a2.getD v38.toNat default) < 0))) == false) (.int .i64 v38)), (78, .cnd ((((a0.getD v38.toNat default).f_Kind != 0) || (decide ((a2.getD v38.toNat default) < 0))) == false) (.isl 1 (a2.map e_i64) false)), (77, .bool (((a0.getD v38.toNat default).f_Kind != 0) || (decide ((a2.getD v38.toNat default) < 0)))), (76, .bool (((a0.getD v38.toNat default).f_Kind != 0) || (decide ((a2.getD v38.toNat default) < 0)))), (75, .cnd (((a0.getD v38.toNat default).f_Kind != 0) == false) (.bool (decide ((a2.getD v38.toNat default) < 0)))), (74, .cnd (((a0.getD v38.toNat default).f_Kind != 0) == false) (.int .i64 (a2.getD v38.toNat default))), (73, .cnd (((a0.getD v38.toNat default).f_Kind != 0) == false) (.iptr 1 (a2.map e_i64) v38.toNat 0)), (72, .cnd (((a0.getD v38.toNat default).f_Kind != 0) == false) (.int .i64 v38)), (71, .cnd (((a0.getD v38.toNat default).f_Kind != 0) == false) (.isl 1 (a2.map e_i64) false)), (70, .bool ((a0.getD v38.toNat default).f_Kind != 0)), (69, .bool ((a0.getD v38.toNat default).f_Kind != 0)), (68, .int .i64 ((a0.getD v38.toNat default).f_Kind)), (67, .iptr 3 (a0.map e_QKey) v38.toNat 0), (66, .iptr 3 (a0.map e_QKey) v38.toNat 0), (65, .int .i64 v38), (64, .isl 3 (a0.map e_QKey) false), (0, .isl 3 (a0.map e_QKey) false), (1, .isl 2 (a1.map e_QValue) false), (2, .isl 1 (a2.map e_i64) false), (3, .int .i64 a3), (9, .ptr (0, 0) 0 0), (11, .msl (1, 0) 7 0 v43.length false), (12, .int .i64 v37), (13, .ptr (2, 0) 0 0), (14, .int .i64 v38), (15, .bool v82.1), (16, .int .i64 v82.2.1), (43, .int .i64 (if 30 < (if ((a2.map e_i64).length : Int) < (if ((a1.map e_QValue).length : Int) < ((a0.map e_QKey).length : Int) then ((a1.map e_QValue).length : Int) else ((a0.map e_QKey).length : Int)) then ((a2.map e_i64).length : Int) else (if ((a1.map e_QValue).length : Int) < ((a0.map e_QKey).length : Int) then ((a1.map e_QValue).length : Int) else ((a0.map e_QKey).length : Int))) then 30 else (if ((a2.map e_i64).length : Int) < (if ((a1.map e_QValue).length : Int) < ((a0.map e_QKey).length : Int) then ((a1.map e_QValue).length : Int) else ((a0.map e_QKey).length : Int)) then ((a2.map e_i64).length : Int) else (if ((a1.map e_QValue).length : Int) < ((a0.map e_QKey).length : Int) then ((a1.map e_QValue).length : Int) else ((a0.map e_QKey).length : Int))))), (44, .int .i64 v38)] _ _
    refine Exists.intro (e_i64 (a2.getD v38.toNat default)) (And.intro (fun hp => And.intro (getD_enc e_i64 _ _ (idx_ltL e_i64 (h119 hp))) (And.intro hp (And.intro (idx_lt (h119 hp)) (Nat.le_of_ble_eq_true rfl)))) ?_)
    refine And.intro (fun hp => hp) ?_
    refine And.intro (fun hc => (bqf hc)) ?_
    refine LWp.sim (e := [(0, .isl 3 (a0.map e_QKey) false), (1, .isl 2 (a1.map e_QValue) false), (2, .isl 1 (a2.map e_i64) false), (3, .int .i64 a3), (9, .ptr (0, 0) 0 0), (11, .msl (1, 0) 7 0 v43.length false), (12, .int .i64 v37), (13, .ptr (2, 0) 0 0), (14, .int .i64 v38), (15, .bool v82.1), (16, .int .i64 v82.2.1), (43, .int .i64 (if 30 < (if ((a2.map e_i64).length : Int) < (if ((a1.map e_QValue).length : Int) < ((a0.map e_QKey).length : Int) then ((a1.map e_QValue).length : Int) else ((a0.map e_QKey).length : Int)) then ((a2.map e_i64).length : Int) else (if ((a1.map e_QValue).length : Int) < ((a0.map e_QKey).length : Int) then ((a1.map e_QValue).length : Int) else ((a0.map e_QKey).length : Int))) then 30 else (if ((a2.map e_i64).length : Int) < (if ((a1.map e_QValue).length : Int) < ((a0.map e_QKey).length : Int) then ((a1.map e_QValue).length : Int) else ((a0.map e_QKey).length : Int)) then ((a2.map e_i64).length : Int) else (if ((a1.map e_QValue).length : Int) < ((a0.map e_QKey).length : Int) then ((a1.map e_QValue).length : Int) else ((a0.map e_QKey).length : Int))))), (44, .int .i64 v38), (83, .bool ((((a0.getD v38.toNat default).f_Kind != 0) || (decide ((a2.getD v38.toNat default) < 0))) || (decide ((a2.getD v38.toNat default) > 2))))]) (L := [((0, 0), .one [.int .i64 v82.2.2.1, .int .i64 v82.2.2.2.1, .int .i64 v82.2.2.2.2.1, .int .i64 v82.2.2.2.2.2.1, .map (3, 0)]), ((1, 0), .rows 7 (v43.map e_input)), ((2, 0), .one [.int .i64 v44, .int .i64 v45, .int .i64 v46]), ((3, 0), .amap (v82.2.2.2.2.2.2.map (em a_QKey a_cell)))]) (n := 4) (simI (M := [((0, 0), (0, 0)), ((1, 0), (1, 0)), ((2, 0), (2, 0)), ((3, 0), (3, 0))]) rfl (And.intro (Vw.same _ rfl) (And.intro (Vw.same _ rfl) (And.intro (Vw.same _ rfl) (And.intro (Vw.same _ rfl) (And.intro (Vw.ptr _ _ _ _ rfl) (And.intro (Vw.mslE rfl (by first | rfl | simp) rfl) (And.intro (Vw.same _ rfl) (And.intro (Vw.ptr _ _ _ _ rfl) (And.intro (Vw.same _ rfl) (And.intro (Vw.same _ rfl) (And.intro (Vw.same _ rfl) (And.intro (Vw.same _ rfl) (And.intro (Vw.same _ rfl) (And.intro (Vw.same _ rfl) trivial)))))))))))))) (And.intro (And.intro rfl (BVw.oneL (And.intro (Vw.same _ rfl) (And.intro (Vw.same _ rfl) (And.intro (Vw.same _ rfl) (And.intro (Vw.same _ rfl) (And.intro (Vw.map _ _ rfl) trivial))))))) (And.intro (And.intro rfl (BVw.enc e_input (fun _ => rfl) _ v43)) (And.intro (And.intro rfl (BVw.oneL (And.intro (Vw.same _ rfl) (And.intro (Vw.same _ rfl) (And.intro (Vw.same _ rfl) trivial))))) (And.intro (And.intro rfl (BVw.ofMap a_QKey a_cell a_cell_nid v82.2.2.2.2.2.2)) trivial))))) ?_
    refine condI (v := ((((a0.getD v38.toNat default).f_Kind != 0) || (decide ((a2.getD v38.toNat default) < 0))) || (decide ((a2.getD v38.toNat default) > 2)))) rfl trivial (fun h120 => ?_) (fun h120 => ?_)
    · have h := ite_tt h120 h
      refine seqI ?_
      refine regI ?_
      refine seqI ?_
      refine seqI ?_
      refine regI ?_
      obtain ⟨h121, h⟩ := ite_some h
      refine And.intro h121 ?_
      refine Exists.intro (e_QKey (a0.getD v38.toNat default)) (And.intro (getD_enc e_QKey _ _ (idx_ltL e_QKey h121)) (And.intro (And.intro (idx_lt h121) (Nat.le_of_ble_eq_true rfl)) ?_))
      refine condI (v := ((a0.getD v38.toNat default).f_Kind != 0)) rfl trivial (fun h122 => ?_) (fun h122 => ?_)
      · have h := ite_tt h122 h
        refine regI ?_
        refine LWp.sim ?_ (f3_j25_ok h)
        exact simI (M := [((0, 0), (0, 0)), ((1, 0), (1, 0)), ((2, 0), (2, 0)), ((3, 0), (3, 0))]) rfl (And.intro (Vw.same _ rfl) (And.intro (Vw.same _ rfl) (And.intro (Vw.same _ rfl) (And.intro (Vw.same _ rfl) (And.intro (Vw.ptr _ _ _ _ rfl) (And.intro (Vw.mslE rfl (by first | rfl | simp) rfl) (And.intro (Vw.same _ rfl) (And.intro (Vw.ptr _ _ _ _ rfl) (And.intro (Vw.same _ rfl) (And.intro (Vw.same _ rfl) (And.intro (Vw.same _ rfl) (And.intro (Vw.same _ rfl) (And.intro (Vw.same _ rfl) trivial))))))))))))) (And.intro (And.intro rfl (BVw.oneL (And.intro (Vw.same _ rfl) (And.intro (Vw.same _ rfl) (And.intro (Vw.same _ rfl) (And.intro (Vw.same _ rfl) (And.intro (Vw.map _ _ rfl) trivial))))))) (And.intro (And.intro rfl (BVw.enc e_input (fun _ => rfl) _ v43)) (And.intro (And.intro rfl (BVw.oneL (And.intro (Vw.same _ rfl) (And.intro (Vw.same _ rfl) (And.intro (Vw.same _ rfl) trivial))))) (And.intro (And.intro rfl (BVw.ofMap a_QKey a_cell a_cell_nid v82.2.2.2.2.2.2)) trivial))))
      · have h := ite_ff h122 h
        refine skipI ?_
        refine LWp.sim ?_ (f3_j25_ok h)
        exact simI (M := [((0, 0), (0, 0)), ((1, 0), (1, 0)), ((2, 0), (2, 0)), ((3, 0), (3, 0))]) rfl (And.intro (Vw.same _ rfl) (And.intro (Vw.same _ rfl) (And.intro (Vw.same _ rfl) (And.intro (Vw.same _ rfl) (And.intro (Vw.ptr _ _ _ _ rfl) (And.intro (Vw.mslE rfl (by first | rfl | simp) rfl) (And.intro (Vw.same _ rfl) (And.intro (Vw.ptr _ _ _ _ rfl) (And.intro (Vw.same _ rfl) (And.intro (Vw.same _ rfl) (And.intro (Vw.same _ rfl) (And.intro (Vw.same _ rfl) (And.intro (Vw.same _ rfl) trivial))))))))))))) (And.intro (And.intro rfl (BVw.oneL (And.intro (Vw.same _ rfl) (And.intro (Vw.same _ rfl) (And.intro (Vw.same _ rfl) (And.intro (Vw.same _ rfl) (And.intro (Vw.map _ _ rfl) trivial))))))) (And.intro (And.intro rfl (BVw.enc e_input (fun _ => rfl) _ v43)) (And.intro (And.intro rfl (BVw.oneL (And.intro (Vw.same _ rfl) (And.intro (Vw.same _ rfl) (And.intro (Vw.same _ rfl) trivial))))) (And.intro (And.intro rfl (BVw.ofMap a_QKey a_cell a_cell_nid v82.2.2.2.2.2.2)) trivial))))
    · have h := ite_ff h120 h
      refine skipI ?_
      refine seqI ?_
      refine regI ?_
      refine seqI ?_
      refine seqI ?_
      refine regI ?_
      refine blockI ?_
      refine LWp.sim ?_ (f3_L6_ok h)
      exact simI (M := [((0, 0), (0, 0)), ((1, 0), (1, 0)), ((2, 0), (2, 0)), ((3, 0), (3, 0))]) rfl (And.intro (Vw.same _ rfl) (And.intro (Vw.same _ rfl) (And.intro (Vw.same _ rfl) (And.intro (Vw.same _ rfl) (And.intro (Vw.ptr _ _ _ _ rfl) (And.intro (Vw.mslE rfl (by first | rfl | simp) rfl) (And.intro (Vw.same _ rfl) (And.intro (Vw.ptr _ _ _ _ rfl) (And.intro (Vw.same _ rfl) (And.intro (Vw.same _ rfl) (And.intro (Vw.same _ rfl) (And.intro (Vw.same _ rfl) (And.intro (Vw.same _ rfl) (And.intro (Vw.same _ rfl) (And.intro (Vw.same _ rfl) (And.intro (Vw.same _ rfl) trivial)))))))))))))))) (And.intro (And.intro rfl (BVw.oneL (And.intro (Vw.same _ rfl) (And.intro (Vw.same _ rfl) (And.intro (Vw.same _ rfl) (And.intro (Vw.same _ rfl) (And.intro (Vw.map _ _ rfl) trivial))))))) (And.intro (And.intro rfl (BVw.enc e_input (fun _ => rfl) _ v43)) (And.intro (And.intro rfl (BVw.oneL (And.intro (Vw.same _ rfl) (And.intro (Vw.same _ rfl) (And.intro (Vw.same _ rfl) trivial))))) (And.intro (And.intro rfl (BVw.ofMap a_QKey a_cell a_cell_nid v82.2.2.2.2.2.2)) trivial))))
  · have h := ite_ff h112 h
    refine exitI ?_
    obtain ⟨o, hq, rfl⟩ := Option.map_eq_some_iff.1 h
    replace h := hq; clear hq
    refine And.intro nofun ?_
    refine LWp.sim ?_ (f3_j37_ok h)
    exact simI (M := [((0, 0), (0, 0)), ((1, 0), (1, 0)), ((2, 0), (2, 0)), ((3, 0), (3, 0))]) rfl (And.intro (Vw.same _ rfl) (And.intro (Vw.ptr _ _ _ _ rfl) (And.intro (Vw.mslE rfl (by first | rfl | simp) rfl) (And.intro (Vw.same _ rfl) (And.intro (Vw.ptr _ _ _ _ rfl) trivial))))) (And.intro (And.intro rfl (BVw.oneL (And.intro (Vw.same _ rfl) (And.intro (Vw.same _ rfl) (And.intro (Vw.same _ rfl) (And.intro (Vw.same _ rfl) (And.intro (Vw.map _ _ rfl) trivial))))))) (And.intro (And.intro rfl (BVw.enc e_input (fun _ => rfl) _ v43)) (And.intro (And.intro rfl (BVw.oneL (And.intro (Vw.same _ rfl) (And.intro (Vw.same _ rfl) (And.intro (Vw.same _ rfl) trivial))))) (And.intro (And.intro rfl (BVw.ofMap a_QKey a_cell a_cell_nid v47)) trivial))))

theorem f3_L5_ok {a0 : List G_QKey} {a1 : List G_QValue} {a2 : List Int} {a3 : Int} {v37 : Int} {v38 : Int} {v39 : Int} {v40 : Int} {v41 : Int} {v42 : Int} {v43 : List G_input} {v44 : Int} {v45 : Int} {v46 : Int} {v47 : List (G_QKey × G_cell)} {m : Option Nat} {o : Bool} (h : S_glossatorlaw3_InputsScript_l5 m a0 a1 a2 a3 v37 v38 v39 v40 v41 v42 v43 v44 v45 v46 v47 = some o) :
    LWp Try.prog f3_lay 0 (.loop f3_c12) (QBlock 0 (QSeq Try.prog f3_lay 0 f3_c7 (f3_Q a0 a1 a2 a3 o))) [(0, .isl 3 (a0.map e_QKey) false), (1, .isl 2 (a1.map e_QValue) false), (2, .isl 1 (a2.map e_i64) false), (3, .int .i64 a3), (9, .ptr (0, 0) 0 0), (11, .msl (1, 0) 7 0 v43.length false), (12, .int .i64 v37), (13, .ptr (2, 0) 0 0), (43, .int .i64 (if 30 < (if ((a2.map e_i64).length : Int) < (if ((a1.map e_QValue).length : Int) < ((a0.map e_QKey).length : Int) then ((a1.map e_QValue).length : Int) else ((a0.map e_QKey).length : Int)) then ((a2.map e_i64).length : Int) else (if ((a1.map e_QValue).length : Int) < ((a0.map e_QKey).length : Int) then ((a1.map e_QValue).length : Int) else ((a0.map e_QKey).length : Int))) then 30 else (if ((a2.map e_i64).length : Int) < (if ((a1.map e_QValue).length : Int) < ((a0.map e_QKey).length : Int) then ((a1.map e_QValue).length : Int) else ((a0.map e_QKey).length : Int)) then ((a2.map e_i64).length : Int) else (if ((a1.map e_QValue).length : Int) < ((a0.map e_QKey).length : Int) then ((a1.map e_QValue).length : Int) else ((a0.map e_QKey).length : Int))))), (44, .int .i64 v38)] [((0, 0), .one [.int .i64 v39, .int .i64 v40, .int .i64 v41, .int .i64 v42, .map (3, 0)]), ((1, 0), .rows 7 (v43.map e_input)), ((2, 0), .one [.int .i64 v44, .int .i64 v45, .int .i64 v46]), ((3, 0), .amap (v47.map (em a_QKey a_cell)))] 4 :=
  LWp_loopM (m := m) (s := ((v37, v38, v39, v40, v41, v42, v43, v44, v45, v46, v47) : (Int × Int × Int × Int × Int × Int × (List G_input) × Int × Int × Int × (List (G_QKey × G_cell))))) (r := o) (fun (s : (Int × Int × Int × Int × Int × Int × (List G_input) × Int × Int × Int × (List (G_QKey × G_cell)))) => S_glossatorlaw3_InputsScript_b5 m a0 a1 a2 a3 s.1 s.2.1 s.2.2.1 s.2.2.2.1 s.2.2.2.2.1 s.2.2.2.2.2.1 s.2.2.2.2.2.2.1 s.2.2.2.2.2.2.2.1 s.2.2.2.2.2.2.2.2.1 s.2.2.2.2.2.2.2.2.2.1 s.2.2.2.2.2.2.2.2.2.2) (f3_L5_env a0 a1 a2 a3) (f3_L5_hp a0 a1 a2 a3) (f3_L5_Q a0 a1 a2 a3) (fun s o h => f3_L5_bok h) h

noncomputable def S_glossatorlaw3_InputsScript (m : Option Nat) (a0 : List G_QKey) (a1 : List G_QValue) (a2 : List Int) (a3 : Int) : Option Bool :=
  (S_glossatorlaw3_storeExample (some 4096)).bind fun v1 =>
  if (!v1) = true then
    some false
  else
    (S_inputs_New m).bind fun v2 =>
    S_glossatorlaw3_InputsScript_l5 m a0 a1 a2 a3 0 0 0 0 0 0 ([] : List G_input) 0 0 0 ([] : List (G_QKey × G_cell))

theorem f3_start {a0 : List G_QKey} {a1 : List G_QValue} {a2 : List Int} {a3 : Int} {m : Option Nat} {o : Bool} (h : S_glossatorlaw3_InputsScript m a0 a1 a2 a3 = some o) : LWp Try.prog f3_lay 0 f3_c16 (f3_Q a0 a1 a2 a3 o) (initEnv 0 [.isl 3 (a0.map e_QKey) false, .isl 2 (a1.map e_QValue) false, .isl 1 (a2.map e_i64) false, .int .i64 a3]) [] 0 := by
  unfold S_glossatorlaw3_InputsScript at h
  refine seqI ?_
  refine regI ?_
  refine seqI ?_
  refine seqI ?_
  refine regI ?_
  obtain ⟨v1, h1, h⟩ := bind_some h
  refine PFn.call (f4_ok h1) trivial ?_
  refine condI (v := (!v1)) rfl trivial (fun h2 => ?_) (fun h2 => ?_)
  · have h := ite_tt h2 h
    refine seqI ?_
    refine regI ?_
    refine retI ?_
    cases h
    exact And.intro trivial (And.intro rfl (Vw.same _ rfl))
  · have h := ite_ff h2 h
    refine skipI ?_
    refine seqI ?_
    refine regI ?_
    obtain ⟨v2, h3, h⟩ := bind_some h
    refine bcall (k := 3) (m := 2) (L' := [((0, 0), .one [.int .i64 0, .int .i64 0, .int .i64 0, .int .i64 0, .map (1, 0)]), ((1, 0), .amap (([] : List (G_QKey × G_cell)).map (em a_QKey a_cell)))]) (rest := []) (R' := .ptr (0, 0) 0 0) [] (f5b0_ok h3) rfl rfl rfl trivial trivial rfl (And.intro rfl (And.intro rfl (And.intro rfl (And.intro (map_ren a_QKey a_cell a_QKey_nid a_cell_nid ([] : List (G_QKey × G_cell))) trivial)))) rfl ?_
    refine seqI ?_
    refine seqI ?_
    refine regI ?_
    refine condI (v := false) rfl trivial (fun hc => Bool.noConfusion hc) (fun hc => ?_)
    refine skipI ?_
    refine seqI ?_
    refine regI ?_
    refine LWp.sim (e := [(0, .isl 3 (a0.map e_QKey) false), (1, .isl 2 (a1.map e_QValue) false), (2, .isl 1 (a2.map e_i64) false), (3, .int .i64 a3), (9, .ptr (0, 0) 0 0), (10, .int .i64 (if 30 < (if ((a2.map e_i64).length : Int) < (if ((a1.map e_QValue).length : Int) < ((a0.map e_QKey).length : Int) then ((a1.map e_QValue).length : Int) else ((a0.map e_QKey).length : Int)) then ((a2.map e_i64).length : Int) else (if ((a1.map e_QValue).length : Int) < ((a0.map e_QKey).length : Int) then ((a1.map e_QValue).length : Int) else ((a0.map e_QKey).length : Int))) then 30 else (if ((a2.map e_i64).length : Int) < (if ((a1.map e_QValue).length : Int) < ((a0.map e_QKey).length : Int) then ((a1.map e_QValue).length : Int) else ((a0.map e_QKey).length : Int)) then ((a2.map e_i64).length : Int) else (if ((a1.map e_QValue).length : Int) < ((a0.map e_QKey).length : Int) then ((a1.map e_QValue).length : Int) else ((a0.map e_QKey).length : Int)))))]) (L := [((0, 0), .one [.int .i64 0, .int .i64 0, .int .i64 0, .int .i64 0, .map (1, 0)]), ((1, 0), .amap (([] : List (G_QKey × G_cell)).map (em a_QKey a_cell)))]) (n := 2) (simI (M := [((0, 0), (0, 0)), ((1, 0), (1, 0))]) rfl (And.intro (Vw.same _ rfl) (And.intro (Vw.same _ rfl) (And.intro (Vw.same _ rfl) (And.intro (Vw.same _ rfl) (And.intro (Vw.ptr _ _ _ _ rfl) (And.intro (Vw.same _ rfl) trivial)))))) (And.intro (And.intro rfl (BVw.oneL (And.intro (Vw.same _ rfl) (And.intro (Vw.same _ rfl) (And.intro (Vw.same _ rfl) (And.intro (Vw.same _ rfl) (And.intro (Vw.map _ _ rfl) trivial))))))) (And.intro (And.intro rfl (BVw.ofMap a_QKey a_cell a_cell_nid ([] : List (G_QKey × G_cell)))) trivial))) ?_
    refine seqI ?_
    refine LWp.ghost (b := (0, 0)) 7 rfl rfl ?_
    refine regI ?_
    refine LWp.sim (e := [(0, .isl 3 (a0.map e_QKey) false), (1, .isl 2 (a1.map e_QValue) false), (2, .isl 1 (a2.map e_i64) false), (3, .int .i64 a3), (9, .ptr (0, 0) 0 0), (10, .int .i64 (if 30 < (if ((a2.map e_i64).length : Int) < (if ((a1.map e_QValue).length : Int) < ((a0.map e_QKey).length : Int) then ((a1.map e_QValue).length : Int) else ((a0.map e_QKey).length : Int)) then ((a2.map e_i64).length : Int) else (if ((a1.map e_QValue).length : Int) < ((a0.map e_QKey).length : Int) then ((a1.map e_QValue).length : Int) else ((a0.map e_QKey).length : Int))) then 30 else (if ((a2.map e_i64).length : Int) < (if ((a1.map e_QValue).length : Int) < ((a0.map e_QKey).length : Int) then ((a1.map e_QValue).length : Int) else ((a0.map e_QKey).length : Int)) then ((a2.map e_i64).length : Int) else (if ((a1.map e_QValue).length : Int) < ((a0.map e_QKey).length : Int) then ((a1.map e_QValue).length : Int) else ((a0.map e_QKey).length : Int))))), (11, .msl (1, 0) 7 0 (([] : List G_input).length) false)]) (L := [((0, 0), .one [.int .i64 0, .int .i64 0, .int .i64 0, .int .i64 0, .map (2, 0)]), ((1, 0), .rows 7 (([] : List G_input).map e_input)), ((2, 0), .amap (([] : List (G_QKey × G_cell)).map (em a_QKey a_cell)))]) (n := 3) (simI (M := [((0, 0), (0, 0)), ((1, 0), (2, 0)), ((2, 0), (1, 0))]) rfl (And.intro (Vw.same _ rfl) (And.intro (Vw.same _ rfl) (And.intro (Vw.same _ rfl) (And.intro (Vw.same _ rfl) (And.intro (Vw.ptr _ _ _ _ rfl) (And.intro (Vw.same _ rfl) (And.intro (Vw.nilM _ _ _ _ _ _ rfl rfl) trivial))))))) (And.intro (And.intro rfl (BVw.oneL (And.intro (Vw.same _ rfl) (And.intro (Vw.same _ rfl) (And.intro (Vw.same _ rfl) (And.intro (Vw.same _ rfl) (And.intro (Vw.map _ _ rfl) trivial))))))) (And.intro (And.intro rfl (BVw.enc e_input (fun _ => rfl) _ ([] : List G_input))) (And.intro (And.intro rfl (BVw.ofMap a_QKey a_cell a_cell_nid ([] : List (G_QKey × G_cell)))) trivial)))) ?_
    refine seqI ?_
    refine regI ?_
    refine seqI ?_
    refine seqI ?_
    refine regI ?_
    refine blockI ?_
    refine LWp.sim ?_ (f3_L5_ok h)
    exact simI (M := [((0, 0), (0, 0)), ((1, 0), (1, 0)), ((2, 0), (3, 0)), ((3, 0), (2, 0))]) rfl (And.intro (Vw.same _ rfl) (And.intro (Vw.same _ rfl) (And.intro (Vw.same _ rfl) (And.intro (Vw.same _ rfl) (And.intro (Vw.ptr _ _ _ _ rfl) (And.intro (Vw.mslE rfl (by first | rfl | simp) rfl) (And.intro (Vw.same _ rfl) (And.intro (Vw.ptr _ _ _ _ rfl) (And.intro (Vw.same _ rfl) (And.intro (Vw.same _ rfl) trivial)))))))))) (And.intro (And.intro rfl (BVw.oneL (And.intro (Vw.same _ rfl) (And.intro (Vw.same _ rfl) (And.intro (Vw.same _ rfl) (And.intro (Vw.same _ rfl) (And.intro (Vw.map _ _ rfl) trivial))))))) (And.intro (And.intro rfl (BVw.enc e_input (fun _ => rfl) _ ([] : List G_input))) (And.intro (And.intro rfl (BVw.oneL (And.intro (Vw.same _ rfl) (And.intro (Vw.same _ rfl) (And.intro (Vw.same _ rfl) trivial))))) (And.intro (And.intro rfl (BVw.ofMap a_QKey a_cell a_cell_nid ([] : List (G_QKey × G_cell)))) trivial))))

theorem f3_ok {a0 : List G_QKey} {a1 : List G_QValue} {a2 : List Int} {a3 : Int} {m : Option Nat} {o : Bool} (h : S_glossatorlaw3_InputsScript m a0 a1 a2 a3 = some o) : PFn Try.prog 3 [.isl 3 (a0.map e_QKey) false, .isl 2 (a1.map e_QValue) false, .isl 1 (a2.map e_i64) false, .int .i64 a3] (.bool o) := PFn.ofFnW (L := f3_L) f3_low f3_fok (Nat.le_of_ble_eq_true rfl) rfl (f3_start h)
end Go.Proofs.Ytaggohiooalcaaa
