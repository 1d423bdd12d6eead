/- MADE BY PROGRAM (wip/eng/Gen1.lean, wip/tools/gen.py): functions, compiled for the engine. -/
import Derived.Test.YtmpoklkgdcofbaaGreatDoorG03L0L0
set_option maxRecDepth 100000
namespace Go.Proofs.YtmpoklkgdcofbaaGreatDoor
open Go.Eng

/-- damask/damasklaw02.SyntaxSame -/
abbrev f_lwSyntaxSame : FuncId := 7
def k_lwSyntaxSame : Tab := [(0, [], [2, 3]), (1, [0, 1, 3, 4, 2, 5, 6, 7, 8, 9, 11, 12, 10, 13, 14, 15, 16, 17, 18, 19, 20, 21], [2, 3, 31]), (2, [], [4]), (3, [], [2, 3, 5]), (4, [], [2, 3, 5, 47]), (6, [0, 1, 2, 3, 4, 5, 6, 7, 8, 9, 10, 11, 12, 13], [2, 3, 5, 6, 7]), (7, [0, 1, 2, 3, 5, 6, 7, 8, 4, 9, 10], [2, 3, 5, 6, 7, 70]), (8, [], [4]), (9, [], [2, 3, 5, 6, 7, 98]), (10, [0, 1, 2, 3, 4, 5, 6, 7, 8, 9, 10, 11, 12, 13, 14, 15, 16, 17, 18, 19], [2, 3, 5, 8, 9]), (11, [0, 1, 3, 4, 2, 5, 6, 7, 8, 9, 10, 11, 12], [2, 3, 5, 127]), (12, [], [4]), (5, [], [2, 3, 5]), (13, [], [4]), (999999, [31, 47, 70, 127, 98], [])]
def l_lwSyntaxSame_0 : ACode := (.seq (.seq (.reg [⟨(some 32), .mv (.t 5), none⟩,
    ⟨(some 33), .faddr 4 (.t 2), none⟩,
    ⟨(some 34), .load none (.t 33), none⟩,
    ⟨(some 35), .lenL (.t 34), none⟩,
    ⟨(some 36), .bin .lss (.t 32) (.t 35), none⟩,
    ⟨(some 37), .mv (.t 36), none⟩,
    ⟨(some 38), .mv (.t 5), (some (37, true))⟩,
    ⟨(some 39), .faddr 4 (.t 3), (some (37, true))⟩,
    ⟨(some 40), .load none (.t 39), (some (37, true))⟩,
    ⟨(some 41), .lenL (.t 40), (some (37, true))⟩,
    ⟨(some 42), .bin .lss (.t 38) (.t 41), (some (37, true))⟩,
    ⟨(some 43), .pick (.t 37) (.t 42) (.c (.bool false)), none⟩,
    ⟨(some 44), .mv (.t 43), none⟩,
    ⟨(some 45), .mv (.t 5), (some (44, true))⟩,
    ⟨(some 46), .bin .lss (.t 45) (.c (.int .i64 8)), (some (44, true))⟩,
    ⟨(some 47), .pick (.t 44) (.t 46) (.c (.bool false)), none⟩] [2, 3, 5, 47])
  (.cond (.t 47) true
   .skip
   (.exit 0)))
 (.seq (.block 1 (.seq (.dreg [⟨⟨(some 50), .faddr 4 (.t 2), none⟩, []⟩,
     ⟨⟨(some 51), .load none (.t 50), none⟩, []⟩,
     ⟨⟨(some 52), .mv (.t 5), none⟩, []⟩,
     ⟨⟨(some 53), .iaddr 17 (.t 51) (.t 52), none⟩, []⟩,
     ⟨⟨(some 54), .load (some 17) (.t 53), none⟩, []⟩,
     ⟨⟨(some 55), .faddr 4 (.t 3), none⟩, []⟩,
     ⟨⟨(some 56), .load none (.t 55), none⟩, []⟩,
     ⟨⟨(some 57), .mv (.t 5), none⟩, []⟩,
     ⟨⟨(some 58), .iaddr 17 (.t 56) (.t 57), none⟩, []⟩,
     ⟨⟨(some 59), .load (some 17) (.t 58), none⟩, []⟩,
     ⟨⟨(some 6), .alloc [(.int .i64 0), (.str []), (.str []), (.int .i64 0), (.int .i64 0), (.int .i64 0), (.str []), (.sl [] .nil), (.sl [] .nil), (.sl [] .nil), (.sl [] .nil), (.sl [] .nil), (.sl [] .nil), (.sl [] .nil), (.sl [] .nil), (.sl [] .nil), (.sl [] .nil)], none⟩, []⟩,
     ⟨⟨(some 7), .alloc [(.int .i64 0), (.str []), (.str []), (.int .i64 0), (.int .i64 0), (.int .i64 0), (.str []), (.sl [] .nil), (.sl [] .nil), (.sl [] .nil), (.sl [] .nil), (.sl [] .nil), (.sl [] .nil), (.sl [] .nil), (.sl [] .nil), (.sl [] .nil), (.sl [] .nil)], none⟩, []⟩,
     ⟨⟨none, .store 17 (.t 6) (.t 54), none⟩, [⟨(some 56), .load none (.t 55), none⟩, ⟨(some 59), .load (some 17) (.t 58), none⟩]⟩,
     ⟨⟨none, .store 17 (.t 7) (.t 59), none⟩, []⟩] [2, 3, 5, 6, 7])
   (.seq (.seq (.dreg [⟨⟨(some 60), .faddr 4 (.t 6), none⟩, []⟩,
      ⟨⟨(some 61), .load (some 4) (.t 60), none⟩, []⟩,
      ⟨⟨(some 62), .faddr 4 (.t 7), none⟩, []⟩,
      ⟨⟨(some 63), .load (some 4) (.t 62), none⟩, []⟩,
      ⟨⟨(some 65), .faddr 4 (.t 6), none⟩, []⟩,
      ⟨⟨(some 66), .load (some 4) (.t 65), none⟩, []⟩,
      ⟨⟨(some 67), .faddr 4 (.t 7), none⟩, []⟩,
      ⟨⟨(some 68), .load (some 4) (.t 67), none⟩, []⟩,
      ⟨⟨(some 64), .call (.f 28) [(.t 61), (.t 63)], none⟩, [⟨(some 66), .load (some 4) (.t 65), none⟩, ⟨(some 68), .load (some 4) (.t 67), none⟩]⟩,
      ⟨⟨(some 69), .call (.f 29) [(.t 66), (.t 68)], none⟩, []⟩,
      ⟨⟨(some 70), .beq true (.t 64) (.t 69), none⟩, []⟩] [2, 3, 5, 6, 7, 70])
    (.cond (.t 70) true
     (.seq (.reg [⟨(some 4), .mv (.c (.bool false)), none⟩] [4])
     .ret)
     .skip))
   (.seq (.reg [⟨(some 71), .faddr 15 (.t 6), none⟩,
     ⟨(some 72), .load none (.t 71), none⟩,
     ⟨(some 73), .lenL (.t 72), none⟩,
     ⟨(some 74), .bin .gtr (.t 73) (.c (.int .i64 0)), none⟩,
     ⟨(some 75), .mv (.t 74), none⟩,
     ⟨(some 76), .faddr 15 (.t 7), (some (75, true))⟩,
     ⟨(some 77), .load none (.t 76), (some (75, true))⟩,
     ⟨(some 78), .lenL (.t 77), (some (75, true))⟩,
     ⟨(some 79), .bin .gtr (.t 78) (.c (.int .i64 0)), (some (75, true))⟩,
     ⟨(some 80), .pick (.t 75) (.t 79) (.c (.bool false)), none⟩,
     ⟨(some 81), .mv (.t 80), none⟩,
     ⟨(some 82), .faddr 15 (.t 6), (some (81, true))⟩,
     ⟨(some 83), .load none (.t 82), (some (81, true))⟩,
     ⟨(some 84), .iaddr 3 (.t 83) (.c (.int .i64 0)), (some (81, true))⟩,
     ⟨(some 85), .faddr 1 (.t 84), (some (81, true))⟩,
     ⟨(some 86), .load none (.t 85), (some (81, true))⟩,
     ⟨(some 87), .lenL (.t 86), (some (81, true))⟩,
     ⟨(some 88), .bin .gtr (.t 87) (.c (.int .i64 0)), (some (81, true))⟩,
     ⟨(some 89), .pick (.t 81) (.t 88) (.c (.bool false)), none⟩,
     ⟨(some 90), .mv (.t 89), none⟩,
     ⟨(some 91), .faddr 15 (.t 7), (some (90, true))⟩,
     ⟨(some 92), .load none (.t 91), (some (90, true))⟩,
     ⟨(some 93), .iaddr 3 (.t 92) (.c (.int .i64 0)), (some (90, true))⟩,
     ⟨(some 94), .faddr 1 (.t 93), (some (90, true))⟩,
     ⟨(some 95), .load none (.t 94), (some (90, true))⟩,
     ⟨(some 96), .lenL (.t 95), (some (90, true))⟩,
     ⟨(some 97), .bin .gtr (.t 96) (.c (.int .i64 0)), (some (90, true))⟩,
     ⟨(some 98), .pick (.t 90) (.t 97) (.c (.bool false)), none⟩] [2, 3, 5, 6, 7, 98])
   (.cond (.t 98) true
    (.seq (.dreg [⟨⟨(some 99), .faddr 15 (.t 6), none⟩, []⟩,
      ⟨⟨(some 100), .load none (.t 99), none⟩, []⟩,
      ⟨⟨(some 101), .iaddr 3 (.t 100) (.c (.int .i64 0)), none⟩, []⟩,
      ⟨⟨(some 102), .faddr 1 (.t 101), none⟩, []⟩,
      ⟨⟨(some 103), .load none (.t 102), none⟩, []⟩,
      ⟨⟨(some 104), .iaddr 11 (.t 103) (.c (.int .i64 0)), none⟩, []⟩,
      ⟨⟨(some 105), .faddr 1 (.t 104), none⟩, []⟩,
      ⟨⟨(some 106), .load (some 10) (.t 105), none⟩, []⟩,
      ⟨⟨(some 107), .faddr 15 (.t 7), none⟩, []⟩,
      ⟨⟨(some 108), .load none (.t 107), none⟩, []⟩,
      ⟨⟨(some 109), .iaddr 3 (.t 108) (.c (.int .i64 0)), none⟩, []⟩,
      ⟨⟨(some 110), .faddr 1 (.t 109), none⟩, []⟩,
      ⟨⟨(some 111), .load none (.t 110), none⟩, []⟩,
      ⟨⟨(some 112), .iaddr 11 (.t 111) (.c (.int .i64 0)), none⟩, []⟩,
      ⟨⟨(some 113), .faddr 1 (.t 112), none⟩, []⟩,
      ⟨⟨(some 114), .load (some 10) (.t 113), none⟩, []⟩,
      ⟨⟨(some 8), .alloc [(.int .i64 0), (.str []), (.int .i64 0), (.sl [] .nil), (.sl [] .nil), (.sl [] .nil), (.sl [] .nil), (.sl [] .nil), (.sl [] .nil), (.sl [] .nil)], none⟩, []⟩,
      ⟨⟨(some 9), .alloc [(.int .i64 0), (.str []), (.int .i64 0), (.sl [] .nil), (.sl [] .nil), (.sl [] .nil), (.sl [] .nil), (.sl [] .nil), (.sl [] .nil), (.sl [] .nil)], none⟩, []⟩,
      ⟨⟨none, .store 10 (.t 8) (.t 106), none⟩, [⟨(some 108), .load none (.t 107), none⟩, ⟨(some 111), .load none (.t 110), none⟩, ⟨(some 114), .load (some 10) (.t 113), none⟩]⟩,
      ⟨⟨none, .store 10 (.t 9) (.t 114), none⟩, []⟩] [2, 3, 5, 8, 9])
    (.seq (.dreg [⟨⟨(some 115), .load (some 10) (.t 8), none⟩, []⟩,
      ⟨⟨(some 116), .load (some 10) (.t 9), none⟩, []⟩,
      ⟨⟨(some 118), .load (some 10) (.t 8), none⟩, []⟩,
      ⟨⟨(some 119), .load (some 10) (.t 9), none⟩, []⟩,
      ⟨⟨(some 117), .call (.f 30) [(.t 115), (.t 116)], none⟩, [⟨(some 118), .load (some 10) (.t 8), none⟩, ⟨(some 119), .load (some 10) (.t 9), none⟩]⟩,
      ⟨⟨(some 120), .call (.f 31) [(.t 118), (.t 119)], none⟩, []⟩,
      ⟨⟨(some 121), .beq true (.t 117) (.t 120), none⟩, []⟩,
      ⟨⟨(some 122), .mv (.t 121), none⟩, []⟩,
      ⟨⟨(some 123), .load (some 10) (.t 8), (some (122, false))⟩, []⟩,
      ⟨⟨(some 124), .load (some 10) (.t 8), (some (122, false))⟩, []⟩,
      ⟨⟨(some 125), .call (.f 30) [(.t 123), (.t 124)], (some (122, false))⟩, []⟩,
      ⟨⟨(some 126), .not (.t 125), (some (122, false))⟩, []⟩,
      ⟨⟨(some 127), .pick (.t 122) (.c (.bool true)) (.t 126), none⟩, []⟩] [2, 3, 5, 127])
    (.cond (.t 127) true
     (.seq (.reg [⟨(some 4), .mv (.c (.bool false)), none⟩] [4])
     .ret)
     .skip)))
    .skip)))))
 (.reg [⟨(some 48), .mv (.t 5), none⟩,
  ⟨(some 49), .bin .add (.t 48) (.c (.int .i64 1)), none⟩,
  ⟨(some 5), .mv (.t 49), none⟩] [2, 3, 5])))
def c_lwSyntaxSame : AFn := ⟨(.seq (.reg [⟨(some 2), .box (.t 0), none⟩,
   ⟨(some 3), .box (.t 1), none⟩,
   ⟨(some 4), .mv (.c (.bool false)), none⟩] [2, 3])
 (.seq (.seq (.dreg [⟨⟨(some 10), .load (some 5) (.t 2), none⟩, []⟩,
    ⟨⟨(some 11), .load (some 5) (.t 3), none⟩, []⟩,
    ⟨⟨(some 13), .load (some 5) (.t 2), none⟩, []⟩,
    ⟨⟨(some 14), .load (some 5) (.t 3), none⟩, []⟩,
    ⟨⟨(some 12), .call (.f 26) [(.t 10), (.t 11)], none⟩, [⟨(some 13), .load (some 5) (.t 2), none⟩, ⟨(some 14), .load (some 5) (.t 3), none⟩]⟩,
    ⟨⟨(some 15), .call (.f 27) [(.t 13), (.t 14)], none⟩, []⟩,
    ⟨⟨(some 16), .beq true (.t 12) (.t 15), none⟩, []⟩,
    ⟨⟨(some 17), .mv (.t 16), none⟩, []⟩,
    ⟨⟨(some 18), .load (some 5) (.t 3), (some (17, false))⟩, []⟩,
    ⟨⟨(some 19), .load (some 5) (.t 2), (some (17, false))⟩, []⟩,
    ⟨⟨(some 21), .load (some 5) (.t 2), (some (17, false))⟩, []⟩,
    ⟨⟨(some 22), .load (some 5) (.t 3), (some (17, false))⟩, []⟩,
    ⟨⟨(some 20), .call (.f 26) [(.t 18), (.t 19)], (some (17, false))⟩, [⟨(some 21), .load (some 5) (.t 2), (some (17, false))⟩, ⟨(some 22), .load (some 5) (.t 3), (some (17, false))⟩]⟩,
    ⟨⟨(some 23), .call (.f 27) [(.t 21), (.t 22)], (some (17, false))⟩, []⟩,
    ⟨⟨(some 24), .beq true (.t 20) (.t 23), (some (17, false))⟩, []⟩,
    ⟨⟨(some 25), .pick (.t 17) (.c (.bool true)) (.t 24), none⟩, []⟩,
    ⟨⟨(some 26), .mv (.t 25), none⟩, []⟩,
    ⟨⟨(some 27), .load (some 5) (.t 2), (some (26, false))⟩, []⟩,
    ⟨⟨(some 28), .load (some 5) (.t 2), (some (26, false))⟩, []⟩,
    ⟨⟨(some 29), .call (.f 26) [(.t 27), (.t 28)], (some (26, false))⟩, []⟩,
    ⟨⟨(some 30), .not (.t 29), (some (26, false))⟩, []⟩,
    ⟨⟨(some 31), .pick (.t 26) (.c (.bool true)) (.t 30), none⟩, []⟩] [2, 3, 31])
  (.cond (.t 31) true
   (.seq (.reg [⟨(some 4), .mv (.c (.bool false)), none⟩] [4])
   .ret)
   .skip))
 (.seq (.seq (.reg [⟨(some 5), .mv (.c (.int .i64 0)), none⟩] [2, 3, 5])
  (.block 0 (.loop l_lwSyntaxSame_0)))
 (.seq (.reg [⟨(some 128), .call (.f 13) [], none⟩,
   ⟨(some 4), .mv (.t 128), none⟩] [4])
 .ret)))), [.tmp 4], 129⟩
theorem h_lwSyntaxSame : compFn Tryz.prog k_lwSyntaxSame 7 = some c_lwSyntaxSame := by kernel_rfl
/-- damask/syntax.Same -/
abbrev f_sSame : FuncId := 26
def k_sSame : Tab := [(0, [], [2, 3]), (1, [], [2, 3, 5]), (2, [], [4])]
def c_sSame : AFn := ⟨(.seq (.reg [⟨(some 2), .box (.t 0), none⟩,
   ⟨(some 3), .box (.t 1), none⟩,
   ⟨(some 4), .mv (.c (.bool false)), none⟩] [2, 3])
 (.seq (.reg [⟨(some 5), .mv (.f 67), none⟩] [2, 3, 5])
 (.seq (.reg [⟨(some 6), .faddr 0 (.t 2), none⟩,
   ⟨(some 7), .load none (.t 6), none⟩,
   ⟨(some 8), .faddr 0 (.t 3), none⟩,
   ⟨(some 9), .load none (.t 8), none⟩,
   ⟨(some 10), .bin .eql (.t 7) (.t 9), none⟩,
   ⟨(some 11), .mv (.t 10), none⟩,
   ⟨(some 12), .faddr 1 (.t 2), (some (11, true))⟩,
   ⟨(some 13), .load none (.t 12), (some (11, true))⟩,
   ⟨(some 14), .faddr 1 (.t 3), (some (11, true))⟩,
   ⟨(some 15), .load none (.t 14), (some (11, true))⟩,
   ⟨(some 16), .beq false (.t 13) (.t 15), (some (11, true))⟩,
   ⟨(some 17), .pick (.t 11) (.t 16) (.c (.bool false)), none⟩,
   ⟨(some 18), .mv (.t 17), none⟩,
   ⟨(some 19), .faddr 2 (.t 2), (some (18, true))⟩,
   ⟨(some 20), .load none (.t 19), (some (18, true))⟩,
   ⟨(some 21), .faddr 2 (.t 3), (some (18, true))⟩,
   ⟨(some 22), .load none (.t 21), (some (18, true))⟩,
   ⟨(some 23), .call (.f 68) [(.t 20), (.t 22)], (some (18, true))⟩,
   ⟨(some 24), .pick (.t 18) (.t 23) (.c (.bool false)), none⟩,
   ⟨(some 25), .mv (.t 24), none⟩,
   ⟨(some 26), .faddr 3 (.t 2), (some (25, true))⟩,
   ⟨(some 27), .load none (.t 26), (some (25, true))⟩,
   ⟨(some 28), .faddr 3 (.t 3), (some (25, true))⟩,
   ⟨(some 29), .load none (.t 28), (some (25, true))⟩,
   ⟨(some 30), .mv (.t 5), (some (25, true))⟩,
   ⟨(some 31), .call (.f 69) [(.t 27), (.t 29), (.t 30)], (some (25, true))⟩,
   ⟨(some 32), .pick (.t 25) (.t 31) (.c (.bool false)), none⟩,
   ⟨(some 33), .mv (.t 32), none⟩,
   ⟨(some 34), .faddr 4 (.t 2), (some (33, true))⟩,
   ⟨(some 35), .load none (.t 34), (some (33, true))⟩,
   ⟨(some 36), .faddr 4 (.t 3), (some (33, true))⟩,
   ⟨(some 37), .load none (.t 36), (some (33, true))⟩,
   ⟨(some 38), .call (.f 70) [(.t 35), (.t 37), (.f 71)], (some (33, true))⟩,
   ⟨(some 39), .pick (.t 33) (.t 38) (.c (.bool false)), none⟩,
   ⟨(some 4), .mv (.t 39), none⟩] [4])
 .ret))), [.tmp 4], 40⟩
theorem h_sSame : compFn Tryz.prog k_sSame 26 = some c_sSame := by kernel_rfl
/-- damask/damaskref02.Same -/
abbrev f_gSame : FuncId := 27
def k_gSame : Tab := [(0, [], [2, 3]), (1, [], [2, 3, 44]), (2, [], [4]), (3, [], [3, 46, 47, 48]), (4, [], [3, 46, 47, 48, 49]), (5, [], [3, 5, 6, 46, 47, 48]), (6, [], [3, 6, 7, 46, 47, 48]), (7, [], [3, 46, 47, 48, 77]), (8, [], [4]), (9, [], [3, 46, 47, 48]), (10, [], [4]), (999999, [44, 49, 77], [])]
def l_gSame_0 : ACode := (.seq (.reg [⟨(some 49), .bin .lss (.t 48) (.t 47), none⟩] [3, 46, 47, 48, 49])
 (.seq (.cond (.t 49) true
   .skip
   (.exit 0))
 (.seq (.block 1 (.seq (.reg [⟨(some 50), .mv (.t 48), none⟩,
     ⟨(some 51), .iaddr 3 (.t 46) (.t 48), none⟩,
     ⟨(some 52), .load (some 3) (.t 51), none⟩,
     ⟨(some 6), .alloc [(.str []), (.bool false), (.sl [] .nil)], none⟩,
     ⟨(some 5), .mv (.t 50), none⟩,
     ⟨none, .store 3 (.t 6) (.t 52), none⟩] [3, 5, 6, 46, 47, 48])
   (.seq (.reg [⟨(some 53), .faddr 3 (.t 3), none⟩,
     ⟨(some 54), .load none (.t 53), none⟩,
     ⟨(some 55), .mv (.t 5), none⟩,
     ⟨(some 56), .iaddr 3 (.t 54) (.t 55), none⟩,
     ⟨(some 57), .load (some 3) (.t 56), none⟩,
     ⟨(some 7), .alloc [(.str []), (.bool false), (.sl [] .nil)], none⟩,
     ⟨none, .store 3 (.t 7) (.t 57), none⟩] [3, 6, 7, 46, 47, 48])
   (.seq (.reg [⟨(some 58), .faddr 0 (.t 6), none⟩,
     ⟨(some 59), .load none (.t 58), none⟩,
     ⟨(some 60), .faddr 0 (.t 7), none⟩,
     ⟨(some 61), .load none (.t 60), none⟩,
     ⟨(some 62), .bin .neq (.t 59) (.t 61), none⟩,
     ⟨(some 63), .mv (.t 62), none⟩,
     ⟨(some 64), .faddr 1 (.t 6), (some (63, false))⟩,
     ⟨(some 65), .load none (.t 64), (some (63, false))⟩,
     ⟨(some 66), .faddr 1 (.t 7), (some (63, false))⟩,
     ⟨(some 67), .load none (.t 66), (some (63, false))⟩,
     ⟨(some 68), .beq true (.t 65) (.t 67), (some (63, false))⟩,
     ⟨(some 69), .pick (.t 63) (.c (.bool true)) (.t 68), none⟩,
     ⟨(some 70), .mv (.t 69), none⟩,
     ⟨(some 71), .faddr 2 (.t 6), (some (70, false))⟩,
     ⟨(some 72), .load none (.t 71), (some (70, false))⟩,
     ⟨(some 73), .faddr 2 (.t 7), (some (70, false))⟩,
     ⟨(some 74), .load none (.t 73), (some (70, false))⟩,
     ⟨(some 75), .call (.f 37) [(.t 72), (.t 74)], (some (70, false))⟩,
     ⟨(some 76), .not (.t 75), (some (70, false))⟩,
     ⟨(some 77), .pick (.t 70) (.c (.bool true)) (.t 76), none⟩] [3, 46, 47, 48, 77])
   (.cond (.t 77) true
    (.seq (.reg [⟨(some 4), .mv (.c (.bool false)), none⟩] [4])
    .ret)
    .skip)))))
 (.reg [⟨(some 78), .bin .add (.t 48) (.c (.int .i64 1)), none⟩,
  ⟨(some 48), .mv (.t 78), none⟩] [3, 46, 47, 48]))))
def c_gSame : AFn := ⟨(.seq (.reg [⟨(some 2), .box (.t 0), none⟩,
   ⟨(some 3), .box (.t 1), none⟩,
   ⟨(some 4), .mv (.c (.bool false)), none⟩] [2, 3])
 (.seq (.seq (.reg [⟨(some 8), .faddr 0 (.t 2), none⟩,
    ⟨(some 9), .load none (.t 8), none⟩,
    ⟨(some 10), .faddr 0 (.t 3), none⟩,
    ⟨(some 11), .load none (.t 10), none⟩,
    ⟨(some 12), .bin .neq (.t 9) (.t 11), none⟩,
    ⟨(some 13), .mv (.t 12), none⟩,
    ⟨(some 14), .faddr 1 (.t 2), (some (13, false))⟩,
    ⟨(some 15), .load none (.t 14), (some (13, false))⟩,
    ⟨(some 16), .faddr 1 (.t 3), (some (13, false))⟩,
    ⟨(some 17), .load none (.t 16), (some (13, false))⟩,
    ⟨(some 18), .beq true (.t 15) (.t 17), (some (13, false))⟩,
    ⟨(some 19), .pick (.t 13) (.c (.bool true)) (.t 18), none⟩,
    ⟨(some 20), .mv (.t 19), none⟩,
    ⟨(some 21), .faddr 2 (.t 2), (some (20, false))⟩,
    ⟨(some 22), .load none (.t 21), (some (20, false))⟩,
    ⟨(some 23), .faddr 2 (.t 3), (some (20, false))⟩,
    ⟨(some 24), .load none (.t 23), (some (20, false))⟩,
    ⟨(some 25), .call (.f 37) [(.t 22), (.t 24)], (some (20, false))⟩,
    ⟨(some 26), .not (.t 25), (some (20, false))⟩,
    ⟨(some 27), .pick (.t 20) (.c (.bool true)) (.t 26), none⟩,
    ⟨(some 28), .mv (.t 27), none⟩,
    ⟨(some 29), .faddr 3 (.t 2), (some (28, false))⟩,
    ⟨(some 30), .load none (.t 29), (some (28, false))⟩,
    ⟨(some 31), .lenL (.t 30), (some (28, false))⟩,
    ⟨(some 32), .faddr 3 (.t 3), (some (28, false))⟩,
    ⟨(some 33), .load none (.t 32), (some (28, false))⟩,
    ⟨(some 34), .lenL (.t 33), (some (28, false))⟩,
    ⟨(some 35), .bin .neq (.t 31) (.t 34), (some (28, false))⟩,
    ⟨(some 36), .pick (.t 28) (.c (.bool true)) (.t 35), none⟩,
    ⟨(some 37), .mv (.t 36), none⟩,
    ⟨(some 38), .faddr 4 (.t 2), (some (37, false))⟩,
    ⟨(some 39), .load none (.t 38), (some (37, false))⟩,
    ⟨(some 40), .faddr 4 (.t 3), (some (37, false))⟩,
    ⟨(some 41), .load none (.t 40), (some (37, false))⟩,
    ⟨(some 42), .call (.f 72) [(.t 39), (.t 41)], (some (37, false))⟩,
    ⟨(some 43), .not (.t 42), (some (37, false))⟩,
    ⟨(some 44), .pick (.t 37) (.c (.bool true)) (.t 43), none⟩] [2, 3, 44])
  (.cond (.t 44) true
   (.seq (.reg [⟨(some 4), .mv (.c (.bool false)), none⟩] [4])
   .ret)
   .skip))
 (.seq (.seq (.reg [⟨(some 45), .faddr 3 (.t 2), none⟩,
    ⟨(some 46), .load none (.t 45), none⟩,
    ⟨(some 47), .lenL (.t 46), none⟩,
    ⟨(some 48), .mv (.c (.int .i64 0)), none⟩] [3, 46, 47, 48])
  (.block 0 (.loop l_gSame_0)))
 (.seq (.reg [⟨(some 4), .mv (.c (.bool true)), none⟩] [4])
 .ret)))), [.tmp 4], 79⟩
theorem h_gSame : compFn Tryz.prog k_gSame 27 = some c_gSame := by kernel_rfl
/-- damask/syntax.SameType -/
abbrev f_sSameType : FuncId := 28
def k_sSameType : Tab := [(0, [], [2, 3]), (1, [], [4])]
def c_sSameType : AFn := ⟨(.seq (.reg [⟨(some 2), .box (.t 0), none⟩,
   ⟨(some 3), .box (.t 1), none⟩,
   ⟨(some 4), .mv (.c (.bool false)), none⟩] [2, 3])
 (.seq (.reg [⟨(some 5), .faddr 0 (.t 2), none⟩,
   ⟨(some 6), .load none (.t 5), none⟩,
   ⟨(some 7), .faddr 0 (.t 3), none⟩,
   ⟨(some 8), .load none (.t 7), none⟩,
   ⟨(some 9), .bin .eql (.t 6) (.t 8), none⟩,
   ⟨(some 10), .mv (.t 9), none⟩,
   ⟨(some 11), .faddr 1 (.t 2), (some (10, true))⟩,
   ⟨(some 12), .load none (.t 11), (some (10, true))⟩,
   ⟨(some 13), .faddr 1 (.t 3), (some (10, true))⟩,
   ⟨(some 14), .load none (.t 13), (some (10, true))⟩,
   ⟨(some 15), .bin .eql (.t 12) (.t 14), (some (10, true))⟩,
   ⟨(some 16), .pick (.t 10) (.t 15) (.c (.bool false)), none⟩,
   ⟨(some 17), .mv (.t 16), none⟩,
   ⟨(some 18), .faddr 2 (.t 2), (some (17, true))⟩,
   ⟨(some 19), .load none (.t 18), (some (17, true))⟩,
   ⟨(some 20), .faddr 2 (.t 3), (some (17, true))⟩,
   ⟨(some 21), .load none (.t 20), (some (17, true))⟩,
   ⟨(some 22), .bin .eql (.t 19) (.t 21), (some (17, true))⟩,
   ⟨(some 23), .pick (.t 17) (.t 22) (.c (.bool false)), none⟩,
   ⟨(some 24), .mv (.t 23), none⟩,
   ⟨(some 25), .faddr 3 (.t 2), (some (24, true))⟩,
   ⟨(some 26), .load none (.t 25), (some (24, true))⟩,
   ⟨(some 27), .faddr 3 (.t 3), (some (24, true))⟩,
   ⟨(some 28), .load none (.t 27), (some (24, true))⟩,
   ⟨(some 29), .call (.f 73) [(.t 26), (.t 28), (.f 28)], (some (24, true))⟩,
   ⟨(some 30), .pick (.t 24) (.t 29) (.c (.bool false)), none⟩,
   ⟨(some 4), .mv (.t 30), none⟩] [4])
 .ret)), [.tmp 4], 31⟩
theorem h_sSameType : compFn Tryz.prog k_sSameType 28 = some c_sSameType := by kernel_rfl
/-- damask/damaskref02.SameType -/
abbrev f_gSameType : FuncId := 29
def k_gSameType : Tab := [(0, [], [2, 3]), (1, [], [4])]
def c_gSameType : AFn := ⟨(.seq (.reg [⟨(some 2), .box (.t 0), none⟩,
   ⟨(some 3), .box (.t 1), none⟩,
   ⟨(some 4), .mv (.c (.bool false)), none⟩] [2, 3])
 (.seq (.reg [⟨(some 5), .load (some 4) (.t 2), none⟩,
   ⟨(some 6), .load (some 4) (.t 3), none⟩,
   ⟨(some 7), .call (.f 74) [(.t 5), (.t 6)], none⟩,
   ⟨(some 4), .mv (.t 7), none⟩] [4])
 .ret)), [.tmp 4], 8⟩
theorem h_gSameType : compFn Tryz.prog k_gSameType 29 = some c_gSameType := by kernel_rfl
/-- damask/syntax.SameExpr -/
abbrev f_sSameExpr : FuncId := 30
def k_sSameExpr : Tab := [(0, [], [2, 3]), (1, [], [4])]
def c_sSameExpr : AFn := ⟨(.seq (.reg [⟨(some 2), .box (.t 0), none⟩,
   ⟨(some 3), .box (.t 1), none⟩,
   ⟨(some 4), .mv (.c (.bool false)), none⟩] [2, 3])
 (.seq (.reg [⟨(some 5), .faddr 0 (.t 2), none⟩,
   ⟨(some 6), .load none (.t 5), none⟩,
   ⟨(some 7), .faddr 0 (.t 3), none⟩,
   ⟨(some 8), .load none (.t 7), none⟩,
   ⟨(some 9), .bin .eql (.t 6) (.t 8), none⟩,
   ⟨(some 10), .mv (.t 9), none⟩,
   ⟨(some 11), .faddr 2 (.t 2), (some (10, true))⟩,
   ⟨(some 12), .load none (.t 11), (some (10, true))⟩,
   ⟨(some 13), .faddr 2 (.t 3), (some (10, true))⟩,
   ⟨(some 14), .load none (.t 13), (some (10, true))⟩,
   ⟨(some 15), .bin .eql (.t 12) (.t 14), (some (10, true))⟩,
   ⟨(some 16), .pick (.t 10) (.t 15) (.c (.bool false)), none⟩,
   ⟨(some 17), .mv (.t 16), none⟩,
   ⟨(some 18), .faddr 1 (.t 2), (some (17, true))⟩,
   ⟨(some 19), .load none (.t 18), (some (17, true))⟩,
   ⟨(some 20), .faddr 1 (.t 3), (some (17, true))⟩,
   ⟨(some 21), .load none (.t 20), (some (17, true))⟩,
   ⟨(some 22), .bin .eql (.t 19) (.t 21), (some (17, true))⟩,
   ⟨(some 23), .pick (.t 17) (.t 22) (.c (.bool false)), none⟩,
   ⟨(some 24), .mv (.t 23), none⟩,
   ⟨(some 25), .faddr 3 (.t 2), (some (24, true))⟩,
   ⟨(some 26), .load none (.t 25), (some (24, true))⟩,
   ⟨(some 27), .faddr 3 (.t 3), (some (24, true))⟩,
   ⟨(some 28), .load none (.t 27), (some (24, true))⟩,
   ⟨(some 29), .call (.f 75) [(.t 26), (.t 28), (.f 30)], (some (24, true))⟩,
   ⟨(some 30), .pick (.t 24) (.t 29) (.c (.bool false)), none⟩,
   ⟨(some 31), .mv (.t 30), none⟩,
   ⟨(some 32), .faddr 4 (.t 2), (some (31, true))⟩,
   ⟨(some 33), .load none (.t 32), (some (31, true))⟩,
   ⟨(some 34), .faddr 4 (.t 3), (some (31, true))⟩,
   ⟨(some 35), .load none (.t 34), (some (31, true))⟩,
   ⟨(some 36), .call (.f 73) [(.t 33), (.t 35), (.f 28)], (some (31, true))⟩,
   ⟨(some 37), .pick (.t 31) (.t 36) (.c (.bool false)), none⟩,
   ⟨(some 38), .mv (.t 37), none⟩,
   ⟨(some 39), .faddr 5 (.t 2), (some (38, true))⟩,
   ⟨(some 40), .load none (.t 39), (some (38, true))⟩,
   ⟨(some 41), .faddr 5 (.t 3), (some (38, true))⟩,
   ⟨(some 42), .load none (.t 41), (some (38, true))⟩,
   ⟨(some 43), .call (.f 76) [(.t 40), (.t 42), (.f 77)], (some (38, true))⟩,
   ⟨(some 44), .pick (.t 38) (.t 43) (.c (.bool false)), none⟩,
   ⟨(some 45), .mv (.t 44), none⟩,
   ⟨(some 46), .faddr 6 (.t 2), (some (45, true))⟩,
   ⟨(some 47), .load none (.t 46), (some (45, true))⟩,
   ⟨(some 48), .faddr 6 (.t 3), (some (45, true))⟩,
   ⟨(some 49), .load none (.t 48), (some (45, true))⟩,
   ⟨(some 50), .call (.f 68) [(.t 47), (.t 49)], (some (45, true))⟩,
   ⟨(some 51), .pick (.t 45) (.t 50) (.c (.bool false)), none⟩,
   ⟨(some 52), .mv (.t 51), none⟩,
   ⟨(some 53), .faddr 7 (.t 2), (some (52, true))⟩,
   ⟨(some 54), .load none (.t 53), (some (52, true))⟩,
   ⟨(some 55), .faddr 7 (.t 3), (some (52, true))⟩,
   ⟨(some 56), .load none (.t 55), (some (52, true))⟩,
   ⟨(some 57), .call (.f 70) [(.t 54), (.t 56), (.f 71)], (some (52, true))⟩,
   ⟨(some 58), .pick (.t 52) (.t 57) (.c (.bool false)), none⟩,
   ⟨(some 59), .mv (.t 58), none⟩,
   ⟨(some 60), .faddr 8 (.t 2), (some (59, true))⟩,
   ⟨(some 61), .load none (.t 60), (some (59, true))⟩,
   ⟨(some 62), .faddr 8 (.t 3), (some (59, true))⟩,
   ⟨(some 63), .load none (.t 62), (some (59, true))⟩,
   ⟨(some 64), .call (.f 78) [(.t 61), (.t 63), (.f 79)], (some (59, true))⟩,
   ⟨(some 65), .pick (.t 59) (.t 64) (.c (.bool false)), none⟩,
   ⟨(some 66), .mv (.t 65), none⟩,
   ⟨(some 67), .faddr 9 (.t 2), (some (66, true))⟩,
   ⟨(some 68), .load none (.t 67), (some (66, true))⟩,
   ⟨(some 69), .faddr 9 (.t 3), (some (66, true))⟩,
   ⟨(some 70), .load none (.t 69), (some (66, true))⟩,
   ⟨(some 71), .call (.f 80) [(.t 68), (.t 70), (.f 81)], (some (66, true))⟩,
   ⟨(some 72), .pick (.t 66) (.t 71) (.c (.bool false)), none⟩,
   ⟨(some 4), .mv (.t 72), none⟩] [4])
 .ret)), [.tmp 4], 73⟩
theorem h_sSameExpr : compFn Tryz.prog k_sSameExpr 30 = some c_sSameExpr := by kernel_rfl
/-- damask/damaskref02.SameExpr -/
abbrev f_gSameExpr : FuncId := 31
def k_gSameExpr : Tab := [(0, [], [2, 3]), (1, [], [2, 3, 83]), (2, [], [4]), (3, [], [3, 85, 86, 87]), (4, [], [3, 85, 86, 87, 88]), (5, [], [3, 5, 6, 85, 86, 87]), (6, [], [3, 6, 7, 85, 86, 87]), (7, [], [3, 85, 86, 87, 125]), (8, [], [4]), (9, [], [3, 85, 86, 87]), (10, [], [4]), (999999, [83, 88, 125], [])]
def l_gSameExpr_0 : ACode := (.seq (.reg [⟨(some 88), .bin .lss (.t 87) (.t 86), none⟩] [3, 85, 86, 87, 88])
 (.seq (.cond (.t 88) true
   .skip
   (.exit 0))
 (.seq (.block 1 (.seq (.reg [⟨(some 89), .mv (.t 87), none⟩,
     ⟨(some 90), .iaddr 13 (.t 85) (.t 87), none⟩,
     ⟨(some 91), .load (some 13) (.t 90), none⟩,
     ⟨(some 6), .alloc [(.bool false), (.sl [] .nil), (.int .i64 0), (.str []), (.int .i64 0), (.sl [] .nil), (.sl [] .nil), (.sl [] .nil), (.sl [] .nil), (.sl [] .nil), (.sl [] .nil), (.sl [] .nil), (.sl [] .nil)], none⟩,
     ⟨(some 5), .mv (.t 89), none⟩,
     ⟨none, .store 13 (.t 6) (.t 91), none⟩] [3, 5, 6, 85, 86, 87])
   (.seq (.reg [⟨(some 92), .faddr 9 (.t 3), none⟩,
     ⟨(some 93), .load none (.t 92), none⟩,
     ⟨(some 94), .mv (.t 5), none⟩,
     ⟨(some 95), .iaddr 13 (.t 93) (.t 94), none⟩,
     ⟨(some 96), .load (some 13) (.t 95), none⟩,
     ⟨(some 7), .alloc [(.bool false), (.sl [] .nil), (.int .i64 0), (.str []), (.int .i64 0), (.sl [] .nil), (.sl [] .nil), (.sl [] .nil), (.sl [] .nil), (.sl [] .nil), (.sl [] .nil), (.sl [] .nil), (.sl [] .nil)], none⟩,
     ⟨none, .store 13 (.t 7) (.t 96), none⟩] [3, 6, 7, 85, 86, 87])
   (.seq (.reg [⟨(some 97), .faddr 0 (.t 6), none⟩,
     ⟨(some 98), .load none (.t 97), none⟩,
     ⟨(some 99), .faddr 0 (.t 7), none⟩,
     ⟨(some 100), .load none (.t 99), none⟩,
     ⟨(some 101), .beq true (.t 98) (.t 100), none⟩,
     ⟨(some 102), .mv (.t 101), none⟩,
     ⟨(some 103), .faddr 1 (.t 6), (some (102, false))⟩,
     ⟨(some 104), .load none (.t 103), (some (102, false))⟩,
     ⟨(some 105), .faddr 1 (.t 7), (some (102, false))⟩,
     ⟨(some 106), .load none (.t 105), (some (102, false))⟩,
     ⟨(some 107), .call (.f 84) [(.t 104), (.t 106)], (some (102, false))⟩,
     ⟨(some 108), .not (.t 107), (some (102, false))⟩,
     ⟨(some 109), .pick (.t 102) (.c (.bool true)) (.t 108), none⟩,
     ⟨(some 110), .mv (.t 109), none⟩,
     ⟨(some 111), .faddr 2 (.t 6), (some (110, false))⟩,
     ⟨(some 112), .load (some 10) (.t 111), (some (110, false))⟩,
     ⟨(some 113), .faddr 2 (.t 7), (some (110, false))⟩,
     ⟨(some 114), .load (some 10) (.t 113), (some (110, false))⟩,
     ⟨(some 115), .call (.f 31) [(.t 112), (.t 114)], (some (110, false))⟩,
     ⟨(some 116), .not (.t 115), (some (110, false))⟩,
     ⟨(some 117), .pick (.t 110) (.c (.bool true)) (.t 116), none⟩,
     ⟨(some 118), .mv (.t 117), none⟩,
     ⟨(some 119), .faddr 12 (.t 6), (some (118, false))⟩,
     ⟨(some 120), .load none (.t 119), (some (118, false))⟩,
     ⟨(some 121), .faddr 12 (.t 7), (some (118, false))⟩,
     ⟨(some 122), .load none (.t 121), (some (118, false))⟩,
     ⟨(some 123), .call (.f 72) [(.t 120), (.t 122)], (some (118, false))⟩,
     ⟨(some 124), .not (.t 123), (some (118, false))⟩,
     ⟨(some 125), .pick (.t 118) (.c (.bool true)) (.t 124), none⟩] [3, 85, 86, 87, 125])
   (.cond (.t 125) true
    (.seq (.reg [⟨(some 4), .mv (.c (.bool false)), none⟩] [4])
    .ret)
    .skip)))))
 (.reg [⟨(some 126), .bin .add (.t 87) (.c (.int .i64 1)), none⟩,
  ⟨(some 87), .mv (.t 126), none⟩] [3, 85, 86, 87]))))
def c_gSameExpr : AFn := ⟨(.seq (.reg [⟨(some 2), .box (.t 0), none⟩,
   ⟨(some 3), .box (.t 1), none⟩,
   ⟨(some 4), .mv (.c (.bool false)), none⟩] [2, 3])
 (.seq (.seq (.reg [⟨(some 8), .faddr 0 (.t 2), none⟩,
    ⟨(some 9), .load none (.t 8), none⟩,
    ⟨(some 10), .faddr 0 (.t 3), none⟩,
    ⟨(some 11), .load none (.t 10), none⟩,
    ⟨(some 12), .bin .neq (.t 9) (.t 11), none⟩,
    ⟨(some 13), .mv (.t 12), none⟩,
    ⟨(some 14), .faddr 1 (.t 2), (some (13, false))⟩,
    ⟨(some 15), .load none (.t 14), (some (13, false))⟩,
    ⟨(some 16), .faddr 1 (.t 3), (some (13, false))⟩,
    ⟨(some 17), .load none (.t 16), (some (13, false))⟩,
    ⟨(some 18), .bin .neq (.t 15) (.t 17), (some (13, false))⟩,
    ⟨(some 19), .pick (.t 13) (.c (.bool true)) (.t 18), none⟩,
    ⟨(some 20), .mv (.t 19), none⟩,
    ⟨(some 21), .faddr 2 (.t 2), (some (20, false))⟩,
    ⟨(some 22), .load none (.t 21), (some (20, false))⟩,
    ⟨(some 23), .faddr 2 (.t 3), (some (20, false))⟩,
    ⟨(some 24), .load none (.t 23), (some (20, false))⟩,
    ⟨(some 25), .bin .neq (.t 22) (.t 24), (some (20, false))⟩,
    ⟨(some 26), .pick (.t 20) (.c (.bool true)) (.t 25), none⟩,
    ⟨(some 27), .mv (.t 26), none⟩,
    ⟨(some 28), .faddr 3 (.t 2), (some (27, false))⟩,
    ⟨(some 29), .load none (.t 28), (some (27, false))⟩,
    ⟨(some 30), .faddr 3 (.t 3), (some (27, false))⟩,
    ⟨(some 31), .load none (.t 30), (some (27, false))⟩,
    ⟨(some 32), .call (.f 82) [(.t 29), (.t 31)], (some (27, false))⟩,
    ⟨(some 33), .not (.t 32), (some (27, false))⟩,
    ⟨(some 34), .pick (.t 27) (.c (.bool true)) (.t 33), none⟩,
    ⟨(some 35), .mv (.t 34), none⟩,
    ⟨(some 36), .faddr 4 (.t 2), (some (35, false))⟩,
    ⟨(some 37), .load none (.t 36), (some (35, false))⟩,
    ⟨(some 38), .faddr 4 (.t 3), (some (35, false))⟩,
    ⟨(some 39), .load none (.t 38), (some (35, false))⟩,
    ⟨(some 40), .call (.f 83) [(.t 37), (.t 39)], (some (35, false))⟩,
    ⟨(some 41), .not (.t 40), (some (35, false))⟩,
    ⟨(some 42), .pick (.t 35) (.c (.bool true)) (.t 41), none⟩,
    ⟨(some 43), .mv (.t 42), none⟩,
    ⟨(some 44), .faddr 5 (.t 2), (some (43, false))⟩,
    ⟨(some 45), .load none (.t 44), (some (43, false))⟩,
    ⟨(some 46), .faddr 5 (.t 3), (some (43, false))⟩,
    ⟨(some 47), .load none (.t 46), (some (43, false))⟩,
    ⟨(some 48), .call (.f 84) [(.t 45), (.t 47)], (some (43, false))⟩,
    ⟨(some 49), .not (.t 48), (some (43, false))⟩,
    ⟨(some 50), .pick (.t 43) (.c (.bool true)) (.t 49), none⟩,
    ⟨(some 51), .mv (.t 50), none⟩,
    ⟨(some 52), .faddr 6 (.t 2), (some (51, false))⟩,
    ⟨(some 53), .load none (.t 52), (some (51, false))⟩,
    ⟨(some 54), .faddr 6 (.t 3), (some (51, false))⟩,
    ⟨(some 55), .load none (.t 54), (some (51, false))⟩,
    ⟨(some 56), .call (.f 37) [(.t 53), (.t 55)], (some (51, false))⟩,
    ⟨(some 57), .not (.t 56), (some (51, false))⟩,
    ⟨(some 58), .pick (.t 51) (.c (.bool true)) (.t 57), none⟩,
    ⟨(some 59), .mv (.t 58), none⟩,
    ⟨(some 60), .faddr 7 (.t 2), (some (59, false))⟩,
    ⟨(some 61), .load none (.t 60), (some (59, false))⟩,
    ⟨(some 62), .faddr 7 (.t 3), (some (59, false))⟩,
    ⟨(some 63), .load none (.t 62), (some (59, false))⟩,
    ⟨(some 64), .call (.f 72) [(.t 61), (.t 63)], (some (59, false))⟩,
    ⟨(some 65), .not (.t 64), (some (59, false))⟩,
    ⟨(some 66), .pick (.t 59) (.c (.bool true)) (.t 65), none⟩,
    ⟨(some 67), .mv (.t 66), none⟩,
    ⟨(some 68), .faddr 8 (.t 2), (some (67, false))⟩,
    ⟨(some 69), .load none (.t 68), (some (67, false))⟩,
    ⟨(some 70), .faddr 8 (.t 3), (some (67, false))⟩,
    ⟨(some 71), .load none (.t 70), (some (67, false))⟩,
    ⟨(some 72), .call (.f 85) [(.t 69), (.t 71)], (some (67, false))⟩,
    ⟨(some 73), .not (.t 72), (some (67, false))⟩,
    ⟨(some 74), .pick (.t 67) (.c (.bool true)) (.t 73), none⟩,
    ⟨(some 75), .mv (.t 74), none⟩,
    ⟨(some 76), .faddr 9 (.t 2), (some (75, false))⟩,
    ⟨(some 77), .load none (.t 76), (some (75, false))⟩,
    ⟨(some 78), .lenL (.t 77), (some (75, false))⟩,
    ⟨(some 79), .faddr 9 (.t 3), (some (75, false))⟩,
    ⟨(some 80), .load none (.t 79), (some (75, false))⟩,
    ⟨(some 81), .lenL (.t 80), (some (75, false))⟩,
    ⟨(some 82), .bin .neq (.t 78) (.t 81), (some (75, false))⟩,
    ⟨(some 83), .pick (.t 75) (.c (.bool true)) (.t 82), none⟩] [2, 3, 83])
  (.cond (.t 83) true
   (.seq (.reg [⟨(some 4), .mv (.c (.bool false)), none⟩] [4])
   .ret)
   .skip))
 (.seq (.seq (.reg [⟨(some 84), .faddr 9 (.t 2), none⟩,
    ⟨(some 85), .load none (.t 84), none⟩,
    ⟨(some 86), .lenL (.t 85), none⟩,
    ⟨(some 87), .mv (.c (.int .i64 0)), none⟩] [3, 85, 86, 87])
  (.block 0 (.loop l_gSameExpr_0)))
 (.seq (.reg [⟨(some 4), .mv (.c (.bool true)), none⟩] [4])
 .ret)))), [.tmp 4], 127⟩
theorem h_gSameExpr : compFn Tryz.prog k_gSameExpr 31 = some c_gSameExpr := by kernel_rfl
/-- damask/syntax.Same$1 -/
abbrev f_sSame_1 : FuncId := 67
def k_sSame_1 : Tab := [(0, [], [2, 3]), (1, [], [4])]
def c_sSame_1 : AFn := ⟨(.seq (.reg [⟨(some 2), .box (.t 0), none⟩,
   ⟨(some 3), .box (.t 1), none⟩,
   ⟨(some 4), .mv (.c (.bool false)), none⟩] [2, 3])
 (.seq (.reg [⟨(some 5), .faddr 0 (.t 2), none⟩,
   ⟨(some 6), .load none (.t 5), none⟩,
   ⟨(some 7), .faddr 0 (.t 3), none⟩,
   ⟨(some 8), .load none (.t 7), none⟩,
   ⟨(some 9), .bin .eql (.t 6) (.t 8), none⟩,
   ⟨(some 10), .mv (.t 9), none⟩,
   ⟨(some 11), .faddr 1 (.t 2), (some (10, true))⟩,
   ⟨(some 12), .load none (.t 11), (some (10, true))⟩,
   ⟨(some 13), .faddr 1 (.t 3), (some (10, true))⟩,
   ⟨(some 14), .load none (.t 13), (some (10, true))⟩,
   ⟨(some 15), .beq false (.t 12) (.t 14), (some (10, true))⟩,
   ⟨(some 16), .pick (.t 10) (.t 15) (.c (.bool false)), none⟩,
   ⟨(some 17), .mv (.t 16), none⟩,
   ⟨(some 18), .faddr 2 (.t 2), (some (17, true))⟩,
   ⟨(some 19), .load none (.t 18), (some (17, true))⟩,
   ⟨(some 20), .faddr 2 (.t 3), (some (17, true))⟩,
   ⟨(some 21), .load none (.t 20), (some (17, true))⟩,
   ⟨(some 22), .call (.f 68) [(.t 19), (.t 21)], (some (17, true))⟩,
   ⟨(some 23), .pick (.t 17) (.t 22) (.c (.bool false)), none⟩,
   ⟨(some 4), .mv (.t 23), none⟩] [4])
 .ret)), [.tmp 4], 24⟩
theorem h_sSame_1 : compFn Tryz.prog k_sSame_1 67 = some c_sSame_1 := by kernel_rfl
/-- slices.Equal[[]string,string] -/
abbrev f_eqString : FuncId := 68
def k_eqString : Tab := [(0, [], [0, 1]), (1, [], [0, 1, 10]), (2, [], [4]), (3, [], [0, 1, 12, 13]), (4, [], [0, 1, 12, 13, 14]), (5, [], [0, 1, 5, 12, 13]), (6, [0, 1, 2, 3, 4, 5, 6, 7, 8], [0, 1, 12, 13, 24]), (7, [], [4]), (8, [], [0, 1, 12, 13]), (9, [], [4]), (999999, [10, 14, 24], [])]
def l_eqString_0 : ACode := (.seq (.reg [⟨(some 14), .bin .lss (.t 13) (.t 12), none⟩] [0, 1, 12, 13, 14])
 (.seq (.cond (.t 14) true
   .skip
   (.exit 0))
 (.seq (.block 1 (.seq (.reg [⟨(some 15), .mv (.t 13), none⟩,
     ⟨(some 5), .mv (.t 15), none⟩] [0, 1, 5, 12, 13])
   (.seq (.dreg [⟨⟨(some 16), .mv (.t 0), none⟩, []⟩,
     ⟨⟨(some 17), .mv (.t 5), none⟩, []⟩,
     ⟨⟨(some 18), .iaddr 1 (.t 16) (.t 17), none⟩, []⟩,
     ⟨⟨(some 19), .load none (.t 18), none⟩, []⟩,
     ⟨⟨(some 20), .mv (.t 1), none⟩, []⟩,
     ⟨⟨(some 21), .mv (.t 5), none⟩, []⟩,
     ⟨⟨(some 22), .iaddr 1 (.t 20) (.t 21), none⟩, []⟩,
     ⟨⟨(some 23), .load none (.t 22), none⟩, []⟩,
     ⟨⟨(some 24), .bin .neq (.t 19) (.t 23), none⟩, []⟩] [0, 1, 12, 13, 24])
   (.cond (.t 24) true
    (.seq (.reg [⟨(some 4), .mv (.c (.bool false)), none⟩] [4])
    .ret)
    .skip))))
 (.reg [⟨(some 25), .bin .add (.t 13) (.c (.int .i64 1)), none⟩,
  ⟨(some 13), .mv (.t 25), none⟩] [0, 1, 12, 13]))))
def c_eqString : AFn := ⟨(.seq (.reg [⟨(some 4), .mv (.c (.bool false)), none⟩] [0, 1])
 (.seq (.seq (.reg [⟨(some 6), .mv (.t 0), none⟩,
    ⟨(some 7), .lenL (.t 6), none⟩,
    ⟨(some 8), .mv (.t 1), none⟩,
    ⟨(some 9), .lenL (.t 8), none⟩,
    ⟨(some 10), .bin .neq (.t 7) (.t 9), none⟩] [0, 1, 10])
  (.cond (.t 10) true
   (.seq (.reg [⟨(some 4), .mv (.c (.bool false)), none⟩] [4])
   .ret)
   .skip))
 (.seq (.seq (.reg [⟨(some 11), .mv (.t 0), none⟩,
    ⟨(some 12), .lenL (.t 11), none⟩,
    ⟨(some 13), .mv (.c (.int .i64 0)), none⟩] [0, 1, 12, 13])
  (.block 0 (.loop l_eqString_0)))
 (.seq (.reg [⟨(some 4), .mv (.c (.bool true)), none⟩] [4])
 .ret)))), [.tmp 4], 26⟩
theorem h_eqString : compFn Tryz.prog k_eqString 68 = some c_eqString := by kernel_rfl
/-- slices.EqualFunc[[]damask/api.Import,[]damask/api.Import,damask/api.Import,damask/api.Import] -/
abbrev f_eqfImport : FuncId := 69
def k_eqfImport : Tab := [(0, [], [0, 1, 2]), (1, [], [0, 1, 2, 14]), (2, [], [6]), (3, [], [1, 2, 15, 16, 17]), (4, [], [1, 2, 15, 16, 17, 18]), (5, [], [1, 2, 7, 8, 15, 16, 17]), (6, [], [1, 2, 8, 9, 15, 16, 17]), (7, [], [1, 2, 15, 16, 17, 30]), (8, [], [6]), (9, [], [1, 2, 15, 16, 17]), (10, [], [6]), (999999, [14, 18, 30], [])]
def l_eqfImport_0 : ACode := (.seq (.reg [⟨(some 18), .bin .lss (.t 17) (.t 16), none⟩] [1, 2, 15, 16, 17, 18])
 (.seq (.cond (.t 18) true
   .skip
   (.exit 0))
 (.seq (.block 1 (.seq (.reg [⟨(some 19), .mv (.t 17), none⟩,
     ⟨(some 20), .iaddr 3 (.t 15) (.t 17), none⟩,
     ⟨(some 21), .load (some 3) (.t 20), none⟩,
     ⟨(some 8), .alloc [(.str []), (.bool false), (.sl [] .nil)], none⟩,
     ⟨(some 7), .mv (.t 19), none⟩,
     ⟨none, .store 3 (.t 8) (.t 21), none⟩] [1, 2, 7, 8, 15, 16, 17])
   (.seq (.reg [⟨(some 22), .mv (.t 1), none⟩,
     ⟨(some 23), .mv (.t 7), none⟩,
     ⟨(some 24), .iaddr 3 (.t 22) (.t 23), none⟩,
     ⟨(some 25), .load (some 3) (.t 24), none⟩,
     ⟨(some 9), .alloc [(.str []), (.bool false), (.sl [] .nil)], none⟩,
     ⟨none, .store 3 (.t 9) (.t 25), none⟩] [1, 2, 8, 9, 15, 16, 17])
   (.seq (.reg [⟨(some 26), .mv (.t 2), none⟩,
     ⟨(some 27), .load (some 3) (.t 8), none⟩,
     ⟨(some 28), .load (some 3) (.t 9), none⟩,
     ⟨(some 29), .call (.t 26) [(.t 27), (.t 28)], none⟩,
     ⟨(some 30), .not (.t 29), none⟩] [1, 2, 15, 16, 17, 30])
   (.cond (.t 30) true
    (.seq (.reg [⟨(some 6), .mv (.c (.bool false)), none⟩] [6])
    .ret)
    .skip)))))
 (.reg [⟨(some 31), .bin .add (.t 17) (.c (.int .i64 1)), none⟩,
  ⟨(some 17), .mv (.t 31), none⟩] [1, 2, 15, 16, 17]))))
def c_eqfImport : AFn := ⟨(.seq (.reg [⟨(some 6), .mv (.c (.bool false)), none⟩] [0, 1, 2])
 (.seq (.seq (.reg [⟨(some 10), .mv (.t 0), none⟩,
    ⟨(some 11), .lenL (.t 10), none⟩,
    ⟨(some 12), .mv (.t 1), none⟩,
    ⟨(some 13), .lenL (.t 12), none⟩,
    ⟨(some 14), .bin .neq (.t 11) (.t 13), none⟩] [0, 1, 2, 14])
  (.cond (.t 14) true
   (.seq (.reg [⟨(some 6), .mv (.c (.bool false)), none⟩] [6])
   .ret)
   .skip))
 (.seq (.seq (.reg [⟨(some 15), .mv (.t 0), none⟩,
    ⟨(some 16), .lenL (.t 15), none⟩,
    ⟨(some 17), .mv (.c (.int .i64 0)), none⟩] [1, 2, 15, 16, 17])
  (.block 0 (.loop l_eqfImport_0)))
 (.seq (.reg [⟨(some 6), .mv (.c (.bool true)), none⟩] [6])
 .ret)))), [.tmp 6], 32⟩
theorem h_eqfImport : compFn Tryz.prog k_eqfImport 69 = some c_eqfImport := by kernel_rfl
/-- slices.EqualFunc[[]damask/api.Decl,[]damask/api.Decl,damask/api.Decl,damask/api.Decl] -/
abbrev f_eqfDecl : FuncId := 70
def k_eqfDecl : Tab := [(0, [], [0, 1, 2]), (1, [], [0, 1, 2, 14]), (2, [], [6]), (3, [], [1, 2, 15, 16, 17]), (4, [], [1, 2, 15, 16, 17, 18]), (5, [], [1, 2, 7, 8, 15, 16, 17]), (6, [], [1, 2, 8, 9, 15, 16, 17]), (7, [], [1, 2, 15, 16, 17, 30]), (8, [], [6]), (9, [], [1, 2, 15, 16, 17]), (10, [], [6]), (999999, [14, 18, 30], [])]
def l_eqfDecl_0 : ACode := (.seq (.reg [⟨(some 18), .bin .lss (.t 17) (.t 16), none⟩] [1, 2, 15, 16, 17, 18])
 (.seq (.cond (.t 18) true
   .skip
   (.exit 0))
 (.seq (.block 1 (.seq (.reg [⟨(some 19), .mv (.t 17), none⟩,
     ⟨(some 20), .iaddr 17 (.t 15) (.t 17), none⟩,
     ⟨(some 21), .load (some 17) (.t 20), none⟩,
     ⟨(some 8), .alloc [(.int .i64 0), (.str []), (.str []), (.int .i64 0), (.int .i64 0), (.int .i64 0), (.str []), (.sl [] .nil), (.sl [] .nil), (.sl [] .nil), (.sl [] .nil), (.sl [] .nil), (.sl [] .nil), (.sl [] .nil), (.sl [] .nil), (.sl [] .nil), (.sl [] .nil)], none⟩,
     ⟨(some 7), .mv (.t 19), none⟩,
     ⟨none, .store 17 (.t 8) (.t 21), none⟩] [1, 2, 7, 8, 15, 16, 17])
   (.seq (.reg [⟨(some 22), .mv (.t 1), none⟩,
     ⟨(some 23), .mv (.t 7), none⟩,
     ⟨(some 24), .iaddr 17 (.t 22) (.t 23), none⟩,
     ⟨(some 25), .load (some 17) (.t 24), none⟩,
     ⟨(some 9), .alloc [(.int .i64 0), (.str []), (.str []), (.int .i64 0), (.int .i64 0), (.int .i64 0), (.str []), (.sl [] .nil), (.sl [] .nil), (.sl [] .nil), (.sl [] .nil), (.sl [] .nil), (.sl [] .nil), (.sl [] .nil), (.sl [] .nil), (.sl [] .nil), (.sl [] .nil)], none⟩,
     ⟨none, .store 17 (.t 9) (.t 25), none⟩] [1, 2, 8, 9, 15, 16, 17])
   (.seq (.reg [⟨(some 26), .mv (.t 2), none⟩,
     ⟨(some 27), .load (some 17) (.t 8), none⟩,
     ⟨(some 28), .load (some 17) (.t 9), none⟩,
     ⟨(some 29), .call (.t 26) [(.t 27), (.t 28)], none⟩,
     ⟨(some 30), .not (.t 29), none⟩] [1, 2, 15, 16, 17, 30])
   (.cond (.t 30) true
    (.seq (.reg [⟨(some 6), .mv (.c (.bool false)), none⟩] [6])
    .ret)
    .skip)))))
 (.reg [⟨(some 31), .bin .add (.t 17) (.c (.int .i64 1)), none⟩,
  ⟨(some 17), .mv (.t 31), none⟩] [1, 2, 15, 16, 17]))))
def c_eqfDecl : AFn := ⟨(.seq (.reg [⟨(some 6), .mv (.c (.bool false)), none⟩] [0, 1, 2])
 (.seq (.seq (.reg [⟨(some 10), .mv (.t 0), none⟩,
    ⟨(some 11), .lenL (.t 10), none⟩,
    ⟨(some 12), .mv (.t 1), none⟩,
    ⟨(some 13), .lenL (.t 12), none⟩,
    ⟨(some 14), .bin .neq (.t 11) (.t 13), none⟩] [0, 1, 2, 14])
  (.cond (.t 14) true
   (.seq (.reg [⟨(some 6), .mv (.c (.bool false)), none⟩] [6])
   .ret)
   .skip))
 (.seq (.seq (.reg [⟨(some 15), .mv (.t 0), none⟩,
    ⟨(some 16), .lenL (.t 15), none⟩,
    ⟨(some 17), .mv (.c (.int .i64 0)), none⟩] [1, 2, 15, 16, 17])
  (.block 0 (.loop l_eqfDecl_0)))
 (.seq (.reg [⟨(some 6), .mv (.c (.bool true)), none⟩] [6])
 .ret)))), [.tmp 6], 32⟩
theorem h_eqfDecl : compFn Tryz.prog k_eqfDecl 70 = some c_eqfDecl := by kernel_rfl
/-- damask/syntax.sameDecl -/
abbrev f_ssameDecl : FuncId := 71
def k_ssameDecl : Tab := [(0, [], [2, 3]), (1, [], [2, 3, 5]), (2, [], [2, 3, 5, 6]), (3, [], [2, 3, 5, 6, 7]), (4, [], [2, 3, 5, 6, 7, 8]), (5, [], [2, 3, 5, 6, 7, 8, 9]), (6, [], [4])]
def c_ssameDecl : AFn := ⟨(.seq (.reg [⟨(some 2), .box (.t 0), none⟩,
   ⟨(some 3), .box (.t 1), none⟩,
   ⟨(some 4), .mv (.c (.bool false)), none⟩] [2, 3])
 (.seq (.reg [⟨(some 5), .mv (.f 148), none⟩] [2, 3, 5])
 (.seq (.reg [⟨(some 6), .mv (.f 149), none⟩] [2, 3, 5, 6])
 (.seq (.reg [⟨(some 7), .mv (.f 150), none⟩] [2, 3, 5, 6, 7])
 (.seq (.reg [⟨(some 8), .mv (.f 151), none⟩] [2, 3, 5, 6, 7, 8])
 (.seq (.reg [⟨(some 9), .mv (.f 152), none⟩] [2, 3, 5, 6, 7, 8, 9])
 (.seq (.reg [⟨(some 10), .faddr 0 (.t 2), none⟩,
   ⟨(some 11), .load none (.t 10), none⟩,
   ⟨(some 12), .faddr 0 (.t 3), none⟩,
   ⟨(some 13), .load none (.t 12), none⟩,
   ⟨(some 14), .bin .eql (.t 11) (.t 13), none⟩,
   ⟨(some 15), .mv (.t 14), none⟩,
   ⟨(some 16), .faddr 1 (.t 2), (some (15, true))⟩,
   ⟨(some 17), .load none (.t 16), (some (15, true))⟩,
   ⟨(some 18), .faddr 1 (.t 3), (some (15, true))⟩,
   ⟨(some 19), .load none (.t 18), (some (15, true))⟩,
   ⟨(some 20), .bin .eql (.t 17) (.t 19), (some (15, true))⟩,
   ⟨(some 21), .pick (.t 15) (.t 20) (.c (.bool false)), none⟩,
   ⟨(some 22), .mv (.t 21), none⟩,
   ⟨(some 23), .faddr 2 (.t 2), (some (22, true))⟩,
   ⟨(some 24), .load none (.t 23), (some (22, true))⟩,
   ⟨(some 25), .faddr 2 (.t 3), (some (22, true))⟩,
   ⟨(some 26), .load none (.t 25), (some (22, true))⟩,
   ⟨(some 27), .bin .eql (.t 24) (.t 26), (some (22, true))⟩,
   ⟨(some 28), .pick (.t 22) (.t 27) (.c (.bool false)), none⟩,
   ⟨(some 29), .mv (.t 28), none⟩,
   ⟨(some 30), .faddr 3 (.t 2), (some (29, true))⟩,
   ⟨(some 31), .load none (.t 30), (some (29, true))⟩,
   ⟨(some 32), .faddr 3 (.t 3), (some (29, true))⟩,
   ⟨(some 33), .load none (.t 32), (some (29, true))⟩,
   ⟨(some 34), .bin .eql (.t 31) (.t 33), (some (29, true))⟩,
   ⟨(some 35), .pick (.t 29) (.t 34) (.c (.bool false)), none⟩,
   ⟨(some 36), .mv (.t 35), none⟩,
   ⟨(some 37), .faddr 4 (.t 2), (some (36, true))⟩,
   ⟨(some 38), .load (some 4) (.t 37), (some (36, true))⟩,
   ⟨(some 39), .faddr 4 (.t 3), (some (36, true))⟩,
   ⟨(some 40), .load (some 4) (.t 39), (some (36, true))⟩,
   ⟨(some 41), .call (.f 28) [(.t 38), (.t 40)], (some (36, true))⟩,
   ⟨(some 42), .pick (.t 36) (.t 41) (.c (.bool false)), none⟩,
   ⟨(some 43), .mv (.t 42), none⟩,
   ⟨(some 44), .faddr 8 (.t 2), (some (43, true))⟩,
   ⟨(some 45), .load none (.t 44), (some (43, true))⟩,
   ⟨(some 46), .faddr 8 (.t 3), (some (43, true))⟩,
   ⟨(some 47), .load none (.t 46), (some (43, true))⟩,
   ⟨(some 48), .mv (.t 5), (some (43, true))⟩,
   ⟨(some 49), .call (.f 153) [(.t 45), (.t 47), (.t 48)], (some (43, true))⟩,
   ⟨(some 50), .pick (.t 43) (.t 49) (.c (.bool false)), none⟩,
   ⟨(some 51), .mv (.t 50), none⟩,
   ⟨(some 52), .faddr 9 (.t 2), (some (51, true))⟩,
   ⟨(some 53), .load none (.t 52), (some (51, true))⟩,
   ⟨(some 54), .faddr 9 (.t 3), (some (51, true))⟩,
   ⟨(some 55), .load none (.t 54), (some (51, true))⟩,
   ⟨(some 56), .call (.f 68) [(.t 53), (.t 55)], (some (51, true))⟩,
   ⟨(some 57), .pick (.t 51) (.t 56) (.c (.bool false)), none⟩,
   ⟨(some 58), .mv (.t 57), none⟩,
   ⟨(some 59), .faddr 10 (.t 2), (some (58, true))⟩,
   ⟨(some 60), .load none (.t 59), (some (58, true))⟩,
   ⟨(some 61), .faddr 10 (.t 3), (some (58, true))⟩,
   ⟨(some 62), .load none (.t 61), (some (58, true))⟩,
   ⟨(some 63), .mv (.t 6), (some (58, true))⟩,
   ⟨(some 64), .call (.f 154) [(.t 60), (.t 62), (.t 63)], (some (58, true))⟩,
   ⟨(some 65), .pick (.t 58) (.t 64) (.c (.bool false)), none⟩,
   ⟨(some 66), .mv (.t 65), none⟩,
   ⟨(some 67), .faddr 11 (.t 2), (some (66, true))⟩,
   ⟨(some 68), .load none (.t 67), (some (66, true))⟩,
   ⟨(some 69), .faddr 11 (.t 3), (some (66, true))⟩,
   ⟨(some 70), .load none (.t 69), (some (66, true))⟩,
   ⟨(some 71), .mv (.t 7), (some (66, true))⟩,
   ⟨(some 72), .call (.f 155) [(.t 68), (.t 70), (.t 71)], (some (66, true))⟩,
   ⟨(some 73), .pick (.t 66) (.t 72) (.c (.bool false)), none⟩,
   ⟨(some 74), .mv (.t 73), none⟩,
   ⟨(some 75), .faddr 12 (.t 2), (some (74, true))⟩,
   ⟨(some 76), .load none (.t 75), (some (74, true))⟩,
   ⟨(some 77), .faddr 12 (.t 3), (some (74, true))⟩,
   ⟨(some 78), .load none (.t 77), (some (74, true))⟩,
   ⟨(some 79), .call (.f 73) [(.t 76), (.t 78), (.f 28)], (some (74, true))⟩,
   ⟨(some 80), .pick (.t 74) (.t 79) (.c (.bool false)), none⟩,
   ⟨(some 81), .mv (.t 80), none⟩,
   ⟨(some 82), .faddr 13 (.t 2), (some (81, true))⟩,
   ⟨(some 83), .load none (.t 82), (some (81, true))⟩,
   ⟨(some 84), .faddr 13 (.t 3), (some (81, true))⟩,
   ⟨(some 85), .load none (.t 84), (some (81, true))⟩,
   ⟨(some 86), .mv (.t 8), (some (81, true))⟩,
   ⟨(some 87), .call (.f 156) [(.t 83), (.t 85), (.t 86)], (some (81, true))⟩,
   ⟨(some 88), .pick (.t 81) (.t 87) (.c (.bool false)), none⟩,
   ⟨(some 89), .mv (.t 88), none⟩,
   ⟨(some 90), .faddr 14 (.t 2), (some (89, true))⟩,
   ⟨(some 91), .load none (.t 90), (some (89, true))⟩,
   ⟨(some 92), .faddr 14 (.t 3), (some (89, true))⟩,
   ⟨(some 93), .load none (.t 92), (some (89, true))⟩,
   ⟨(some 94), .mv (.t 9), (some (89, true))⟩,
   ⟨(some 95), .call (.f 157) [(.t 91), (.t 93), (.t 94)], (some (89, true))⟩,
   ⟨(some 96), .pick (.t 89) (.t 95) (.c (.bool false)), none⟩,
   ⟨(some 97), .mv (.t 96), none⟩,
   ⟨(some 98), .faddr 15 (.t 2), (some (97, true))⟩,
   ⟨(some 99), .load none (.t 98), (some (97, true))⟩,
   ⟨(some 100), .faddr 15 (.t 3), (some (97, true))⟩,
   ⟨(some 101), .load none (.t 100), (some (97, true))⟩,
   ⟨(some 102), .call (.f 78) [(.t 99), (.t 101), (.f 79)], (some (97, true))⟩,
   ⟨(some 103), .pick (.t 97) (.t 102) (.c (.bool false)), none⟩,
   ⟨(some 104), .mv (.t 103), none⟩,
   ⟨(some 105), .faddr 16 (.t 2), (some (104, true))⟩,
   ⟨(some 106), .load none (.t 105), (some (104, true))⟩,
   ⟨(some 107), .faddr 16 (.t 3), (some (104, true))⟩,
   ⟨(some 108), .load none (.t 107), (some (104, true))⟩,
   ⟨(some 109), .call (.f 70) [(.t 106), (.t 108), (.f 71)], (some (104, true))⟩,
   ⟨(some 110), .pick (.t 104) (.t 109) (.c (.bool false)), none⟩,
   ⟨(some 4), .mv (.t 110), none⟩] [4])
 .ret))))))), [.tmp 4], 111⟩
theorem h_ssameDecl : compFn Tryz.prog k_ssameDecl 71 = some c_ssameDecl := by kernel_rfl
/-- damask/damaskref02.SameDecls -/
abbrev f_gSameDecls : FuncId := 72
def k_gSameDecls : Tab := [(0, [], [0, 1]), (1, [], [0, 1, 10]), (2, [], [4]), (3, [], [0, 1, 12, 13]), (4, [], [0, 1, 12, 13, 14]), (5, [], [0, 1, 5, 12, 13]), (6, [0, 1, 2, 3, 4, 5, 6, 7, 8, 9], [0, 1, 12, 13, 25]), (7, [], [4]), (8, [], [0, 1, 12, 13]), (9, [], [4]), (999999, [10, 14, 25], [])]
def l_gSameDecls_0 : ACode := (.seq (.reg [⟨(some 14), .bin .lss (.t 13) (.t 12), none⟩] [0, 1, 12, 13, 14])
 (.seq (.cond (.t 14) true
   .skip
   (.exit 0))
 (.seq (.block 1 (.seq (.reg [⟨(some 15), .mv (.t 13), none⟩,
     ⟨(some 5), .mv (.t 15), none⟩] [0, 1, 5, 12, 13])
   (.seq (.dreg [⟨⟨(some 16), .mv (.t 0), none⟩, []⟩,
     ⟨⟨(some 17), .mv (.t 5), none⟩, []⟩,
     ⟨⟨(some 18), .iaddr 17 (.t 16) (.t 17), none⟩, []⟩,
     ⟨⟨(some 19), .load (some 17) (.t 18), none⟩, []⟩,
     ⟨⟨(some 20), .mv (.t 1), none⟩, []⟩,
     ⟨⟨(some 21), .mv (.t 5), none⟩, []⟩,
     ⟨⟨(some 22), .iaddr 17 (.t 20) (.t 21), none⟩, []⟩,
     ⟨⟨(some 23), .load (some 17) (.t 22), none⟩, []⟩,
     ⟨⟨(some 24), .call (.f 158) [(.t 19), (.t 23)], none⟩, []⟩,
     ⟨⟨(some 25), .not (.t 24), none⟩, []⟩] [0, 1, 12, 13, 25])
   (.cond (.t 25) true
    (.seq (.reg [⟨(some 4), .mv (.c (.bool false)), none⟩] [4])
    .ret)
    .skip))))
 (.reg [⟨(some 26), .bin .add (.t 13) (.c (.int .i64 1)), none⟩,
  ⟨(some 13), .mv (.t 26), none⟩] [0, 1, 12, 13]))))
def c_gSameDecls : AFn := ⟨(.seq (.reg [⟨(some 4), .mv (.c (.bool false)), none⟩] [0, 1])
 (.seq (.seq (.reg [⟨(some 6), .mv (.t 0), none⟩,
    ⟨(some 7), .lenL (.t 6), none⟩,
    ⟨(some 8), .mv (.t 1), none⟩,
    ⟨(some 9), .lenL (.t 8), none⟩,
    ⟨(some 10), .bin .neq (.t 7) (.t 9), none⟩] [0, 1, 10])
  (.cond (.t 10) true
   (.seq (.reg [⟨(some 4), .mv (.c (.bool false)), none⟩] [4])
   .ret)
   .skip))
 (.seq (.seq (.reg [⟨(some 11), .mv (.t 0), none⟩,
    ⟨(some 12), .lenL (.t 11), none⟩,
    ⟨(some 13), .mv (.c (.int .i64 0)), none⟩] [0, 1, 12, 13])
  (.block 0 (.loop l_gSameDecls_0)))
 (.seq (.reg [⟨(some 4), .mv (.c (.bool true)), none⟩] [4])
 .ret)))), [.tmp 4], 27⟩
theorem h_gSameDecls : compFn Tryz.prog k_gSameDecls 72 = some c_gSameDecls := by kernel_rfl
/-- slices.EqualFunc[[]damask/api.Type,[]damask/api.Type,damask/api.Type,damask/api.Type] -/
abbrev f_eqfType : FuncId := 73
def k_eqfType : Tab := [(0, [], [0, 1, 2]), (1, [], [0, 1, 2, 14]), (2, [], [6]), (3, [], [1, 2, 15, 16, 17]), (4, [], [1, 2, 15, 16, 17, 18]), (5, [], [1, 2, 7, 8, 15, 16, 17]), (6, [], [1, 2, 8, 9, 15, 16, 17]), (7, [], [1, 2, 15, 16, 17, 30]), (8, [], [6]), (9, [], [1, 2, 15, 16, 17]), (10, [], [6]), (999999, [14, 18, 30], [])]
def l_eqfType_0 : ACode := (.seq (.reg [⟨(some 18), .bin .lss (.t 17) (.t 16), none⟩] [1, 2, 15, 16, 17, 18])
 (.seq (.cond (.t 18) true
   .skip
   (.exit 0))
 (.seq (.block 1 (.seq (.reg [⟨(some 19), .mv (.t 17), none⟩,
     ⟨(some 20), .iaddr 4 (.t 15) (.t 17), none⟩,
     ⟨(some 21), .load (some 4) (.t 20), none⟩,
     ⟨(some 8), .alloc [(.int .i64 0), (.int .i64 0), (.str []), (.sl [] .nil)], none⟩,
     ⟨(some 7), .mv (.t 19), none⟩,
     ⟨none, .store 4 (.t 8) (.t 21), none⟩] [1, 2, 7, 8, 15, 16, 17])
   (.seq (.reg [⟨(some 22), .mv (.t 1), none⟩,
     ⟨(some 23), .mv (.t 7), none⟩,
     ⟨(some 24), .iaddr 4 (.t 22) (.t 23), none⟩,
     ⟨(some 25), .load (some 4) (.t 24), none⟩,
     ⟨(some 9), .alloc [(.int .i64 0), (.int .i64 0), (.str []), (.sl [] .nil)], none⟩,
     ⟨none, .store 4 (.t 9) (.t 25), none⟩] [1, 2, 8, 9, 15, 16, 17])
   (.seq (.reg [⟨(some 26), .mv (.t 2), none⟩,
     ⟨(some 27), .load (some 4) (.t 8), none⟩,
     ⟨(some 28), .load (some 4) (.t 9), none⟩,
     ⟨(some 29), .call (.t 26) [(.t 27), (.t 28)], none⟩,
     ⟨(some 30), .not (.t 29), none⟩] [1, 2, 15, 16, 17, 30])
   (.cond (.t 30) true
    (.seq (.reg [⟨(some 6), .mv (.c (.bool false)), none⟩] [6])
    .ret)
    .skip)))))
 (.reg [⟨(some 31), .bin .add (.t 17) (.c (.int .i64 1)), none⟩,
  ⟨(some 17), .mv (.t 31), none⟩] [1, 2, 15, 16, 17]))))
def c_eqfType : AFn := ⟨(.seq (.reg [⟨(some 6), .mv (.c (.bool false)), none⟩] [0, 1, 2])
 (.seq (.seq (.reg [⟨(some 10), .mv (.t 0), none⟩,
    ⟨(some 11), .lenL (.t 10), none⟩,
    ⟨(some 12), .mv (.t 1), none⟩,
    ⟨(some 13), .lenL (.t 12), none⟩,
    ⟨(some 14), .bin .neq (.t 11) (.t 13), none⟩] [0, 1, 2, 14])
  (.cond (.t 14) true
   (.seq (.reg [⟨(some 6), .mv (.c (.bool false)), none⟩] [6])
   .ret)
   .skip))
 (.seq (.seq (.reg [⟨(some 15), .mv (.t 0), none⟩,
    ⟨(some 16), .lenL (.t 15), none⟩,
    ⟨(some 17), .mv (.c (.int .i64 0)), none⟩] [1, 2, 15, 16, 17])
  (.block 0 (.loop l_eqfType_0)))
 (.seq (.reg [⟨(some 6), .mv (.c (.bool true)), none⟩] [6])
 .ret)))), [.tmp 6], 32⟩
theorem h_eqfType : compFn Tryz.prog k_eqfType 73 = some c_eqfType := by kernel_rfl
/-- damask/damaskkit.Same -/
abbrev f_dSame : FuncId := 74
def k_dSame : Tab := [(0, [], [2, 3]), (1, [], [4])]
def c_dSame : AFn := ⟨(.seq (.reg [⟨(some 2), .box (.t 0), none⟩,
   ⟨(some 3), .box (.t 1), none⟩,
   ⟨(some 4), .mv (.c (.bool false)), none⟩] [2, 3])
 (.seq (.reg [⟨(some 5), .faddr 0 (.t 2), none⟩,
   ⟨(some 6), .load none (.t 5), none⟩,
   ⟨(some 7), .faddr 0 (.t 3), none⟩,
   ⟨(some 8), .load none (.t 7), none⟩,
   ⟨(some 9), .bin .eql (.t 6) (.t 8), none⟩,
   ⟨(some 10), .mv (.t 9), none⟩,
   ⟨(some 11), .faddr 1 (.t 2), (some (10, true))⟩,
   ⟨(some 12), .load none (.t 11), (some (10, true))⟩,
   ⟨(some 13), .faddr 1 (.t 3), (some (10, true))⟩,
   ⟨(some 14), .load none (.t 13), (some (10, true))⟩,
   ⟨(some 15), .bin .eql (.t 12) (.t 14), (some (10, true))⟩,
   ⟨(some 16), .pick (.t 10) (.t 15) (.c (.bool false)), none⟩,
   ⟨(some 17), .mv (.t 16), none⟩,
   ⟨(some 18), .faddr 2 (.t 2), (some (17, true))⟩,
   ⟨(some 19), .load none (.t 18), (some (17, true))⟩,
   ⟨(some 20), .faddr 2 (.t 3), (some (17, true))⟩,
   ⟨(some 21), .load none (.t 20), (some (17, true))⟩,
   ⟨(some 22), .bin .eql (.t 19) (.t 21), (some (17, true))⟩,
   ⟨(some 23), .pick (.t 17) (.t 22) (.c (.bool false)), none⟩,
   ⟨(some 24), .mv (.t 23), none⟩,
   ⟨(some 25), .faddr 3 (.t 2), (some (24, true))⟩,
   ⟨(some 26), .load none (.t 25), (some (24, true))⟩,
   ⟨(some 27), .faddr 3 (.t 3), (some (24, true))⟩,
   ⟨(some 28), .load none (.t 27), (some (24, true))⟩,
   ⟨(some 29), .call (.f 83) [(.t 26), (.t 28)], (some (24, true))⟩,
   ⟨(some 30), .pick (.t 24) (.t 29) (.c (.bool false)), none⟩,
   ⟨(some 4), .mv (.t 30), none⟩] [4])
 .ret)), [.tmp 4], 31⟩
theorem h_dSame : compFn Tryz.prog k_dSame 74 = some c_dSame := by kernel_rfl
/-- slices.EqualFunc[[]damask/api.Expr,[]damask/api.Expr,damask/api.Expr,damask/api.Expr] -/
abbrev f_eqfExpr : FuncId := 75
def k_eqfExpr : Tab := [(0, [], [0, 1, 2]), (1, [], [0, 1, 2, 14]), (2, [], [6]), (3, [], [1, 2, 15, 16, 17]), (4, [], [1, 2, 15, 16, 17, 18]), (5, [], [1, 2, 7, 8, 15, 16, 17]), (6, [], [1, 2, 8, 9, 15, 16, 17]), (7, [], [1, 2, 15, 16, 17, 30]), (8, [], [6]), (9, [], [1, 2, 15, 16, 17]), (10, [], [6]), (999999, [14, 18, 30], [])]
def l_eqfExpr_0 : ACode := (.seq (.reg [⟨(some 18), .bin .lss (.t 17) (.t 16), none⟩] [1, 2, 15, 16, 17, 18])
 (.seq (.cond (.t 18) true
   .skip
   (.exit 0))
 (.seq (.block 1 (.seq (.reg [⟨(some 19), .mv (.t 17), none⟩,
     ⟨(some 20), .iaddr 10 (.t 15) (.t 17), none⟩,
     ⟨(some 21), .load (some 10) (.t 20), none⟩,
     ⟨(some 8), .alloc [(.int .i64 0), (.str []), (.int .i64 0), (.sl [] .nil), (.sl [] .nil), (.sl [] .nil), (.sl [] .nil), (.sl [] .nil), (.sl [] .nil), (.sl [] .nil)], none⟩,
     ⟨(some 7), .mv (.t 19), none⟩,
     ⟨none, .store 10 (.t 8) (.t 21), none⟩] [1, 2, 7, 8, 15, 16, 17])
   (.seq (.reg [⟨(some 22), .mv (.t 1), none⟩,
     ⟨(some 23), .mv (.t 7), none⟩,
     ⟨(some 24), .iaddr 10 (.t 22) (.t 23), none⟩,
     ⟨(some 25), .load (some 10) (.t 24), none⟩,
     ⟨(some 9), .alloc [(.int .i64 0), (.str []), (.int .i64 0), (.sl [] .nil), (.sl [] .nil), (.sl [] .nil), (.sl [] .nil), (.sl [] .nil), (.sl [] .nil), (.sl [] .nil)], none⟩,
     ⟨none, .store 10 (.t 9) (.t 25), none⟩] [1, 2, 8, 9, 15, 16, 17])
   (.seq (.reg [⟨(some 26), .mv (.t 2), none⟩,
     ⟨(some 27), .load (some 10) (.t 8), none⟩,
     ⟨(some 28), .load (some 10) (.t 9), none⟩,
     ⟨(some 29), .call (.t 26) [(.t 27), (.t 28)], none⟩,
     ⟨(some 30), .not (.t 29), none⟩] [1, 2, 15, 16, 17, 30])
   (.cond (.t 30) true
    (.seq (.reg [⟨(some 6), .mv (.c (.bool false)), none⟩] [6])
    .ret)
    .skip)))))
 (.reg [⟨(some 31), .bin .add (.t 17) (.c (.int .i64 1)), none⟩,
  ⟨(some 17), .mv (.t 31), none⟩] [1, 2, 15, 16, 17]))))
def c_eqfExpr : AFn := ⟨(.seq (.reg [⟨(some 6), .mv (.c (.bool false)), none⟩] [0, 1, 2])
 (.seq (.seq (.reg [⟨(some 10), .mv (.t 0), none⟩,
    ⟨(some 11), .lenL (.t 10), none⟩,
    ⟨(some 12), .mv (.t 1), none⟩,
    ⟨(some 13), .lenL (.t 12), none⟩,
    ⟨(some 14), .bin .neq (.t 11) (.t 13), none⟩] [0, 1, 2, 14])
  (.cond (.t 14) true
   (.seq (.reg [⟨(some 6), .mv (.c (.bool false)), none⟩] [6])
   .ret)
   .skip))
 (.seq (.seq (.reg [⟨(some 15), .mv (.t 0), none⟩,
    ⟨(some 16), .lenL (.t 15), none⟩,
    ⟨(some 17), .mv (.c (.int .i64 0)), none⟩] [1, 2, 15, 16, 17])
  (.block 0 (.loop l_eqfExpr_0)))
 (.seq (.reg [⟨(some 6), .mv (.c (.bool true)), none⟩] [6])
 .ret)))), [.tmp 6], 32⟩
theorem h_eqfExpr : compFn Tryz.prog k_eqfExpr 75 = some c_eqfExpr := by kernel_rfl
/-- slices.EqualFunc[[]damask/api.Pat,[]damask/api.Pat,damask/api.Pat,damask/api.Pat] -/
abbrev f_eqfPat : FuncId := 76
def k_eqfPat : Tab := [(0, [], [0, 1, 2]), (1, [], [0, 1, 2, 14]), (2, [], [6]), (3, [], [1, 2, 15, 16, 17]), (4, [], [1, 2, 15, 16, 17, 18]), (5, [], [1, 2, 7, 8, 15, 16, 17]), (6, [], [1, 2, 8, 9, 15, 16, 17]), (7, [], [1, 2, 15, 16, 17, 30]), (8, [], [6]), (9, [], [1, 2, 15, 16, 17]), (10, [], [6]), (999999, [14, 18, 30], [])]
def l_eqfPat_0 : ACode := (.seq (.reg [⟨(some 18), .bin .lss (.t 17) (.t 16), none⟩] [1, 2, 15, 16, 17, 18])
 (.seq (.cond (.t 18) true
   .skip
   (.exit 0))
 (.seq (.block 1 (.seq (.reg [⟨(some 19), .mv (.t 17), none⟩,
     ⟨(some 20), .iaddr 4 (.t 15) (.t 17), none⟩,
     ⟨(some 21), .load (some 4) (.t 20), none⟩,
     ⟨(some 8), .alloc [(.int .i64 0), (.str []), (.int .i64 0), (.sl [] .nil)], none⟩,
     ⟨(some 7), .mv (.t 19), none⟩,
     ⟨none, .store 4 (.t 8) (.t 21), none⟩] [1, 2, 7, 8, 15, 16, 17])
   (.seq (.reg [⟨(some 22), .mv (.t 1), none⟩,
     ⟨(some 23), .mv (.t 7), none⟩,
     ⟨(some 24), .iaddr 4 (.t 22) (.t 23), none⟩,
     ⟨(some 25), .load (some 4) (.t 24), none⟩,
     ⟨(some 9), .alloc [(.int .i64 0), (.str []), (.int .i64 0), (.sl [] .nil)], none⟩,
     ⟨none, .store 4 (.t 9) (.t 25), none⟩] [1, 2, 8, 9, 15, 16, 17])
   (.seq (.reg [⟨(some 26), .mv (.t 2), none⟩,
     ⟨(some 27), .load (some 4) (.t 8), none⟩,
     ⟨(some 28), .load (some 4) (.t 9), none⟩,
     ⟨(some 29), .call (.t 26) [(.t 27), (.t 28)], none⟩,
     ⟨(some 30), .not (.t 29), none⟩] [1, 2, 15, 16, 17, 30])
   (.cond (.t 30) true
    (.seq (.reg [⟨(some 6), .mv (.c (.bool false)), none⟩] [6])
    .ret)
    .skip)))))
 (.reg [⟨(some 31), .bin .add (.t 17) (.c (.int .i64 1)), none⟩,
  ⟨(some 17), .mv (.t 31), none⟩] [1, 2, 15, 16, 17]))))
def c_eqfPat : AFn := ⟨(.seq (.reg [⟨(some 6), .mv (.c (.bool false)), none⟩] [0, 1, 2])
 (.seq (.seq (.reg [⟨(some 10), .mv (.t 0), none⟩,
    ⟨(some 11), .lenL (.t 10), none⟩,
    ⟨(some 12), .mv (.t 1), none⟩,
    ⟨(some 13), .lenL (.t 12), none⟩,
    ⟨(some 14), .bin .neq (.t 11) (.t 13), none⟩] [0, 1, 2, 14])
  (.cond (.t 14) true
   (.seq (.reg [⟨(some 6), .mv (.c (.bool false)), none⟩] [6])
   .ret)
   .skip))
 (.seq (.seq (.reg [⟨(some 15), .mv (.t 0), none⟩,
    ⟨(some 16), .lenL (.t 15), none⟩,
    ⟨(some 17), .mv (.c (.int .i64 0)), none⟩] [1, 2, 15, 16, 17])
  (.block 0 (.loop l_eqfPat_0)))
 (.seq (.reg [⟨(some 6), .mv (.c (.bool true)), none⟩] [6])
 .ret)))), [.tmp 6], 32⟩
theorem h_eqfPat : compFn Tryz.prog k_eqfPat 76 = some c_eqfPat := by kernel_rfl
/-- damask/syntax.samePat -/
abbrev f_ssamePat : FuncId := 77
def k_ssamePat : Tab := [(0, [], [2, 3]), (1, [], [4])]
def c_ssamePat : AFn := ⟨(.seq (.reg [⟨(some 2), .box (.t 0), none⟩,
   ⟨(some 3), .box (.t 1), none⟩,
   ⟨(some 4), .mv (.c (.bool false)), none⟩] [2, 3])
 (.seq (.reg [⟨(some 5), .faddr 0 (.t 2), none⟩,
   ⟨(some 6), .load none (.t 5), none⟩,
   ⟨(some 7), .faddr 0 (.t 3), none⟩,
   ⟨(some 8), .load none (.t 7), none⟩,
   ⟨(some 9), .bin .eql (.t 6) (.t 8), none⟩,
   ⟨(some 10), .mv (.t 9), none⟩,
   ⟨(some 11), .faddr 2 (.t 2), (some (10, true))⟩,
   ⟨(some 12), .load none (.t 11), (some (10, true))⟩,
   ⟨(some 13), .faddr 2 (.t 3), (some (10, true))⟩,
   ⟨(some 14), .load none (.t 13), (some (10, true))⟩,
   ⟨(some 15), .bin .eql (.t 12) (.t 14), (some (10, true))⟩,
   ⟨(some 16), .pick (.t 10) (.t 15) (.c (.bool false)), none⟩,
   ⟨(some 17), .mv (.t 16), none⟩,
   ⟨(some 18), .faddr 1 (.t 2), (some (17, true))⟩,
   ⟨(some 19), .load none (.t 18), (some (17, true))⟩,
   ⟨(some 20), .faddr 1 (.t 3), (some (17, true))⟩,
   ⟨(some 21), .load none (.t 20), (some (17, true))⟩,
   ⟨(some 22), .bin .eql (.t 19) (.t 21), (some (17, true))⟩,
   ⟨(some 23), .pick (.t 17) (.t 22) (.c (.bool false)), none⟩,
   ⟨(some 24), .mv (.t 23), none⟩,
   ⟨(some 25), .faddr 3 (.t 2), (some (24, true))⟩,
   ⟨(some 26), .load none (.t 25), (some (24, true))⟩,
   ⟨(some 27), .faddr 3 (.t 3), (some (24, true))⟩,
   ⟨(some 28), .load none (.t 27), (some (24, true))⟩,
   ⟨(some 29), .call (.f 76) [(.t 26), (.t 28), (.f 77)], (some (24, true))⟩,
   ⟨(some 30), .pick (.t 24) (.t 29) (.c (.bool false)), none⟩,
   ⟨(some 4), .mv (.t 30), none⟩] [4])
 .ret)), [.tmp 4], 31⟩
theorem h_ssamePat : compFn Tryz.prog k_ssamePat 77 = some c_ssamePat := by kernel_rfl
/-- slices.EqualFunc[[]damask/api.Alt,[]damask/api.Alt,damask/api.Alt,damask/api.Alt] -/
abbrev f_eqfAlt : FuncId := 78
def k_eqfAlt : Tab := [(0, [], [0, 1, 2]), (1, [], [0, 1, 2, 14]), (2, [], [6]), (3, [], [1, 2, 15, 16, 17]), (4, [], [1, 2, 15, 16, 17, 18]), (5, [], [1, 2, 7, 8, 15, 16, 17]), (6, [], [1, 2, 8, 9, 15, 16, 17]), (7, [], [1, 2, 15, 16, 17, 30]), (8, [], [6]), (9, [], [1, 2, 15, 16, 17]), (10, [], [6]), (999999, [14, 18, 30], [])]
def l_eqfAlt_0 : ACode := (.seq (.reg [⟨(some 18), .bin .lss (.t 17) (.t 16), none⟩] [1, 2, 15, 16, 17, 18])
 (.seq (.cond (.t 18) true
   .skip
   (.exit 0))
 (.seq (.block 1 (.seq (.reg [⟨(some 19), .mv (.t 17), none⟩,
     ⟨(some 20), .iaddr 3 (.t 15) (.t 17), none⟩,
     ⟨(some 21), .load (some 3) (.t 20), none⟩,
     ⟨(some 8), .alloc [(.sl [] .nil), (.sl [] .nil), (.sl [] .nil)], none⟩,
     ⟨(some 7), .mv (.t 19), none⟩,
     ⟨none, .store 3 (.t 8) (.t 21), none⟩] [1, 2, 7, 8, 15, 16, 17])
   (.seq (.reg [⟨(some 22), .mv (.t 1), none⟩,
     ⟨(some 23), .mv (.t 7), none⟩,
     ⟨(some 24), .iaddr 3 (.t 22) (.t 23), none⟩,
     ⟨(some 25), .load (some 3) (.t 24), none⟩,
     ⟨(some 9), .alloc [(.sl [] .nil), (.sl [] .nil), (.sl [] .nil)], none⟩,
     ⟨none, .store 3 (.t 9) (.t 25), none⟩] [1, 2, 8, 9, 15, 16, 17])
   (.seq (.reg [⟨(some 26), .mv (.t 2), none⟩,
     ⟨(some 27), .load (some 3) (.t 8), none⟩,
     ⟨(some 28), .load (some 3) (.t 9), none⟩,
     ⟨(some 29), .call (.t 26) [(.t 27), (.t 28)], none⟩,
     ⟨(some 30), .not (.t 29), none⟩] [1, 2, 15, 16, 17, 30])
   (.cond (.t 30) true
    (.seq (.reg [⟨(some 6), .mv (.c (.bool false)), none⟩] [6])
    .ret)
    .skip)))))
 (.reg [⟨(some 31), .bin .add (.t 17) (.c (.int .i64 1)), none⟩,
  ⟨(some 17), .mv (.t 31), none⟩] [1, 2, 15, 16, 17]))))
def c_eqfAlt : AFn := ⟨(.seq (.reg [⟨(some 6), .mv (.c (.bool false)), none⟩] [0, 1, 2])
 (.seq (.seq (.reg [⟨(some 10), .mv (.t 0), none⟩,
    ⟨(some 11), .lenL (.t 10), none⟩,
    ⟨(some 12), .mv (.t 1), none⟩,
    ⟨(some 13), .lenL (.t 12), none⟩,
    ⟨(some 14), .bin .neq (.t 11) (.t 13), none⟩] [0, 1, 2, 14])
  (.cond (.t 14) true
   (.seq (.reg [⟨(some 6), .mv (.c (.bool false)), none⟩] [6])
   .ret)
   .skip))
 (.seq (.seq (.reg [⟨(some 15), .mv (.t 0), none⟩,
    ⟨(some 16), .lenL (.t 15), none⟩,
    ⟨(some 17), .mv (.c (.int .i64 0)), none⟩] [1, 2, 15, 16, 17])
  (.block 0 (.loop l_eqfAlt_0)))
 (.seq (.reg [⟨(some 6), .mv (.c (.bool true)), none⟩] [6])
 .ret)))), [.tmp 6], 32⟩
theorem h_eqfAlt : compFn Tryz.prog k_eqfAlt 78 = some c_eqfAlt := by kernel_rfl
/-- damask/syntax.sameAlt -/
abbrev f_ssameAlt : FuncId := 79
def k_ssameAlt : Tab := [(0, [], [2, 3]), (1, [], [2, 3, 5]), (2, [], [4])]
def c_ssameAlt : AFn := ⟨(.seq (.reg [⟨(some 2), .box (.t 0), none⟩,
   ⟨(some 3), .box (.t 1), none⟩,
   ⟨(some 4), .mv (.c (.bool false)), none⟩] [2, 3])
 (.seq (.reg [⟨(some 5), .mv (.f 159), none⟩] [2, 3, 5])
 (.seq (.reg [⟨(some 6), .faddr 0 (.t 2), none⟩,
   ⟨(some 7), .load none (.t 6), none⟩,
   ⟨(some 8), .faddr 0 (.t 3), none⟩,
   ⟨(some 9), .load none (.t 8), none⟩,
   ⟨(some 10), .call (.f 76) [(.t 7), (.t 9), (.f 77)], none⟩,
   ⟨(some 11), .mv (.t 10), none⟩,
   ⟨(some 12), .faddr 1 (.t 2), (some (11, true))⟩,
   ⟨(some 13), .load none (.t 12), (some (11, true))⟩,
   ⟨(some 14), .faddr 1 (.t 3), (some (11, true))⟩,
   ⟨(some 15), .load none (.t 14), (some (11, true))⟩,
   ⟨(some 16), .mv (.t 5), (some (11, true))⟩,
   ⟨(some 17), .call (.f 160) [(.t 13), (.t 15), (.t 16)], (some (11, true))⟩,
   ⟨(some 18), .pick (.t 11) (.t 17) (.c (.bool false)), none⟩,
   ⟨(some 19), .mv (.t 18), none⟩,
   ⟨(some 20), .faddr 2 (.t 2), (some (19, true))⟩,
   ⟨(some 21), .load none (.t 20), (some (19, true))⟩,
   ⟨(some 22), .faddr 2 (.t 3), (some (19, true))⟩,
   ⟨(some 23), .load none (.t 22), (some (19, true))⟩,
   ⟨(some 24), .call (.f 70) [(.t 21), (.t 23), (.f 71)], (some (19, true))⟩,
   ⟨(some 25), .pick (.t 19) (.t 24) (.c (.bool false)), none⟩,
   ⟨(some 4), .mv (.t 25), none⟩] [4])
 .ret))), [.tmp 4], 26⟩
theorem h_ssameAlt : compFn Tryz.prog k_ssameAlt 79 = some c_ssameAlt := by kernel_rfl
/-- slices.EqualFunc[[]damask/api.Stmt,[]damask/api.Stmt,damask/api.Stmt,damask/api.Stmt] -/
abbrev f_eqfStmt : FuncId := 80
def k_eqfStmt : Tab := [(0, [], [0, 1, 2]), (1, [], [0, 1, 2, 14]), (2, [], [6]), (3, [], [1, 2, 15, 16, 17]), (4, [], [1, 2, 15, 16, 17, 18]), (5, [], [1, 2, 7, 8, 15, 16, 17]), (6, [], [1, 2, 8, 9, 15, 16, 17]), (7, [], [1, 2, 15, 16, 17, 30]), (8, [], [6]), (9, [], [1, 2, 15, 16, 17]), (10, [], [6]), (999999, [14, 18, 30], [])]
def l_eqfStmt_0 : ACode := (.seq (.reg [⟨(some 18), .bin .lss (.t 17) (.t 16), none⟩] [1, 2, 15, 16, 17, 18])
 (.seq (.cond (.t 18) true
   .skip
   (.exit 0))
 (.seq (.block 1 (.seq (.reg [⟨(some 19), .mv (.t 17), none⟩,
     ⟨(some 20), .iaddr 13 (.t 15) (.t 17), none⟩,
     ⟨(some 21), .load (some 13) (.t 20), none⟩,
     ⟨(some 8), .alloc [(.bool false), (.sl [] .nil), (.int .i64 0), (.str []), (.int .i64 0), (.sl [] .nil), (.sl [] .nil), (.sl [] .nil), (.sl [] .nil), (.sl [] .nil), (.sl [] .nil), (.sl [] .nil), (.sl [] .nil)], none⟩,
     ⟨(some 7), .mv (.t 19), none⟩,
     ⟨none, .store 13 (.t 8) (.t 21), none⟩] [1, 2, 7, 8, 15, 16, 17])
   (.seq (.reg [⟨(some 22), .mv (.t 1), none⟩,
     ⟨(some 23), .mv (.t 7), none⟩,
     ⟨(some 24), .iaddr 13 (.t 22) (.t 23), none⟩,
     ⟨(some 25), .load (some 13) (.t 24), none⟩,
     ⟨(some 9), .alloc [(.bool false), (.sl [] .nil), (.int .i64 0), (.str []), (.int .i64 0), (.sl [] .nil), (.sl [] .nil), (.sl [] .nil), (.sl [] .nil), (.sl [] .nil), (.sl [] .nil), (.sl [] .nil), (.sl [] .nil)], none⟩,
     ⟨none, .store 13 (.t 9) (.t 25), none⟩] [1, 2, 8, 9, 15, 16, 17])
   (.seq (.reg [⟨(some 26), .mv (.t 2), none⟩,
     ⟨(some 27), .load (some 13) (.t 8), none⟩,
     ⟨(some 28), .load (some 13) (.t 9), none⟩,
     ⟨(some 29), .call (.t 26) [(.t 27), (.t 28)], none⟩,
     ⟨(some 30), .not (.t 29), none⟩] [1, 2, 15, 16, 17, 30])
   (.cond (.t 30) true
    (.seq (.reg [⟨(some 6), .mv (.c (.bool false)), none⟩] [6])
    .ret)
    .skip)))))
 (.reg [⟨(some 31), .bin .add (.t 17) (.c (.int .i64 1)), none⟩,
  ⟨(some 17), .mv (.t 31), none⟩] [1, 2, 15, 16, 17]))))
def c_eqfStmt : AFn := ⟨(.seq (.reg [⟨(some 6), .mv (.c (.bool false)), none⟩] [0, 1, 2])
 (.seq (.seq (.reg [⟨(some 10), .mv (.t 0), none⟩,
    ⟨(some 11), .lenL (.t 10), none⟩,
    ⟨(some 12), .mv (.t 1), none⟩,
    ⟨(some 13), .lenL (.t 12), none⟩,
    ⟨(some 14), .bin .neq (.t 11) (.t 13), none⟩] [0, 1, 2, 14])
  (.cond (.t 14) true
   (.seq (.reg [⟨(some 6), .mv (.c (.bool false)), none⟩] [6])
   .ret)
   .skip))
 (.seq (.seq (.reg [⟨(some 15), .mv (.t 0), none⟩,
    ⟨(some 16), .lenL (.t 15), none⟩,
    ⟨(some 17), .mv (.c (.int .i64 0)), none⟩] [1, 2, 15, 16, 17])
  (.block 0 (.loop l_eqfStmt_0)))
 (.seq (.reg [⟨(some 6), .mv (.c (.bool true)), none⟩] [6])
 .ret)))), [.tmp 6], 32⟩
theorem h_eqfStmt : compFn Tryz.prog k_eqfStmt 80 = some c_eqfStmt := by kernel_rfl
/-- damask/syntax.sameStmt -/
abbrev f_ssameStmt : FuncId := 81
def k_ssameStmt : Tab := [(0, [], [2, 3]), (1, [], [4])]
def c_ssameStmt : AFn := ⟨(.seq (.reg [⟨(some 2), .box (.t 0), none⟩,
   ⟨(some 3), .box (.t 1), none⟩,
   ⟨(some 4), .mv (.c (.bool false)), none⟩] [2, 3])
 (.seq (.reg [⟨(some 5), .faddr 0 (.t 2), none⟩,
   ⟨(some 6), .load none (.t 5), none⟩,
   ⟨(some 7), .faddr 0 (.t 3), none⟩,
   ⟨(some 8), .load none (.t 7), none⟩,
   ⟨(some 9), .beq false (.t 6) (.t 8), none⟩,
   ⟨(some 10), .mv (.t 9), none⟩,
   ⟨(some 11), .faddr 1 (.t 2), (some (10, true))⟩,
   ⟨(some 12), .load none (.t 11), (some (10, true))⟩,
   ⟨(some 13), .faddr 1 (.t 3), (some (10, true))⟩,
   ⟨(some 14), .load none (.t 13), (some (10, true))⟩,
   ⟨(some 15), .call (.f 76) [(.t 12), (.t 14), (.f 77)], (some (10, true))⟩,
   ⟨(some 16), .pick (.t 10) (.t 15) (.c (.bool false)), none⟩,
   ⟨(some 17), .mv (.t 16), none⟩,
   ⟨(some 18), .faddr 2 (.t 2), (some (17, true))⟩,
   ⟨(some 19), .load (some 10) (.t 18), (some (17, true))⟩,
   ⟨(some 20), .faddr 2 (.t 3), (some (17, true))⟩,
   ⟨(some 21), .load (some 10) (.t 20), (some (17, true))⟩,
   ⟨(some 22), .call (.f 30) [(.t 19), (.t 21)], (some (17, true))⟩,
   ⟨(some 23), .pick (.t 17) (.t 22) (.c (.bool false)), none⟩,
   ⟨(some 24), .mv (.t 23), none⟩,
   ⟨(some 25), .faddr 12 (.t 2), (some (24, true))⟩,
   ⟨(some 26), .load none (.t 25), (some (24, true))⟩,
   ⟨(some 27), .faddr 12 (.t 3), (some (24, true))⟩,
   ⟨(some 28), .load none (.t 27), (some (24, true))⟩,
   ⟨(some 29), .call (.f 70) [(.t 26), (.t 28), (.f 71)], (some (24, true))⟩,
   ⟨(some 30), .pick (.t 24) (.t 29) (.c (.bool false)), none⟩,
   ⟨(some 4), .mv (.t 30), none⟩] [4])
 .ret)), [.tmp 4], 31⟩
theorem h_ssameStmt : compFn Tryz.prog k_ssameStmt 81 = some c_ssameStmt := by kernel_rfl
/-- damask/damaskref02.sameExprs -/
abbrev f_gsameExprs : FuncId := 82
def k_gsameExprs : Tab := [(0, [], [0, 1]), (1, [], [0, 1, 10]), (2, [], [4]), (3, [], [0, 1, 12, 13]), (4, [], [0, 1, 12, 13, 14]), (5, [], [0, 1, 5, 12, 13]), (6, [0, 1, 2, 3, 4, 5, 6, 7, 8, 9], [0, 1, 12, 13, 25]), (7, [], [4]), (8, [], [0, 1, 12, 13]), (9, [], [4]), (999999, [10, 14, 25], [])]
def l_gsameExprs_0 : ACode := (.seq (.reg [⟨(some 14), .bin .lss (.t 13) (.t 12), none⟩] [0, 1, 12, 13, 14])
 (.seq (.cond (.t 14) true
   .skip
   (.exit 0))
 (.seq (.block 1 (.seq (.reg [⟨(some 15), .mv (.t 13), none⟩,
     ⟨(some 5), .mv (.t 15), none⟩] [0, 1, 5, 12, 13])
   (.seq (.dreg [⟨⟨(some 16), .mv (.t 0), none⟩, []⟩,
     ⟨⟨(some 17), .mv (.t 5), none⟩, []⟩,
     ⟨⟨(some 18), .iaddr 10 (.t 16) (.t 17), none⟩, []⟩,
     ⟨⟨(some 19), .load (some 10) (.t 18), none⟩, []⟩,
     ⟨⟨(some 20), .mv (.t 1), none⟩, []⟩,
     ⟨⟨(some 21), .mv (.t 5), none⟩, []⟩,
     ⟨⟨(some 22), .iaddr 10 (.t 20) (.t 21), none⟩, []⟩,
     ⟨⟨(some 23), .load (some 10) (.t 22), none⟩, []⟩,
     ⟨⟨(some 24), .call (.f 31) [(.t 19), (.t 23)], none⟩, []⟩,
     ⟨⟨(some 25), .not (.t 24), none⟩, []⟩] [0, 1, 12, 13, 25])
   (.cond (.t 25) true
    (.seq (.reg [⟨(some 4), .mv (.c (.bool false)), none⟩] [4])
    .ret)
    .skip))))
 (.reg [⟨(some 26), .bin .add (.t 13) (.c (.int .i64 1)), none⟩,
  ⟨(some 13), .mv (.t 26), none⟩] [0, 1, 12, 13]))))
def c_gsameExprs : AFn := ⟨(.seq (.reg [⟨(some 4), .mv (.c (.bool false)), none⟩] [0, 1])
 (.seq (.seq (.reg [⟨(some 6), .mv (.t 0), none⟩,
    ⟨(some 7), .lenL (.t 6), none⟩,
    ⟨(some 8), .mv (.t 1), none⟩,
    ⟨(some 9), .lenL (.t 8), none⟩,
    ⟨(some 10), .bin .neq (.t 7) (.t 9), none⟩] [0, 1, 10])
  (.cond (.t 10) true
   (.seq (.reg [⟨(some 4), .mv (.c (.bool false)), none⟩] [4])
   .ret)
   .skip))
 (.seq (.seq (.reg [⟨(some 11), .mv (.t 0), none⟩,
    ⟨(some 12), .lenL (.t 11), none⟩,
    ⟨(some 13), .mv (.c (.int .i64 0)), none⟩] [0, 1, 12, 13])
  (.block 0 (.loop l_gsameExprs_0)))
 (.seq (.reg [⟨(some 4), .mv (.c (.bool true)), none⟩] [4])
 .ret)))), [.tmp 4], 27⟩
theorem h_gsameExprs : compFn Tryz.prog k_gsameExprs 82 = some c_gsameExprs := by kernel_rfl
/-- damask/damaskkit.SameAll -/
abbrev f_dSameAll : FuncId := 83
def k_dSameAll : Tab := [(0, [], [0, 1]), (1, [], [0, 1, 10]), (2, [], [4]), (3, [], [0, 1, 12, 13]), (4, [], [0, 1, 12, 13, 14]), (5, [], [0, 1, 5, 12, 13]), (6, [0, 1, 2, 3, 4, 5, 6, 7, 8, 9], [0, 1, 12, 13, 25]), (7, [], [4]), (8, [], [0, 1, 12, 13]), (9, [], [4]), (999999, [10, 14, 25], [])]
def l_dSameAll_0 : ACode := (.seq (.reg [⟨(some 14), .bin .lss (.t 13) (.t 12), none⟩] [0, 1, 12, 13, 14])
 (.seq (.cond (.t 14) true
   .skip
   (.exit 0))
 (.seq (.block 1 (.seq (.reg [⟨(some 15), .mv (.t 13), none⟩,
     ⟨(some 5), .mv (.t 15), none⟩] [0, 1, 5, 12, 13])
   (.seq (.dreg [⟨⟨(some 16), .mv (.t 0), none⟩, []⟩,
     ⟨⟨(some 17), .mv (.t 5), none⟩, []⟩,
     ⟨⟨(some 18), .iaddr 4 (.t 16) (.t 17), none⟩, []⟩,
     ⟨⟨(some 19), .load (some 4) (.t 18), none⟩, []⟩,
     ⟨⟨(some 20), .mv (.t 1), none⟩, []⟩,
     ⟨⟨(some 21), .mv (.t 5), none⟩, []⟩,
     ⟨⟨(some 22), .iaddr 4 (.t 20) (.t 21), none⟩, []⟩,
     ⟨⟨(some 23), .load (some 4) (.t 22), none⟩, []⟩,
     ⟨⟨(some 24), .call (.f 74) [(.t 19), (.t 23)], none⟩, []⟩,
     ⟨⟨(some 25), .not (.t 24), none⟩, []⟩] [0, 1, 12, 13, 25])
   (.cond (.t 25) true
    (.seq (.reg [⟨(some 4), .mv (.c (.bool false)), none⟩] [4])
    .ret)
    .skip))))
 (.reg [⟨(some 26), .bin .add (.t 13) (.c (.int .i64 1)), none⟩,
  ⟨(some 13), .mv (.t 26), none⟩] [0, 1, 12, 13]))))
def c_dSameAll : AFn := ⟨(.seq (.reg [⟨(some 4), .mv (.c (.bool false)), none⟩] [0, 1])
 (.seq (.seq (.reg [⟨(some 6), .mv (.t 0), none⟩,
    ⟨(some 7), .lenL (.t 6), none⟩,
    ⟨(some 8), .mv (.t 1), none⟩,
    ⟨(some 9), .lenL (.t 8), none⟩,
    ⟨(some 10), .bin .neq (.t 7) (.t 9), none⟩] [0, 1, 10])
  (.cond (.t 10) true
   (.seq (.reg [⟨(some 4), .mv (.c (.bool false)), none⟩] [4])
   .ret)
   .skip))
 (.seq (.seq (.reg [⟨(some 11), .mv (.t 0), none⟩,
    ⟨(some 12), .lenL (.t 11), none⟩,
    ⟨(some 13), .mv (.c (.int .i64 0)), none⟩] [0, 1, 12, 13])
  (.block 0 (.loop l_dSameAll_0)))
 (.seq (.reg [⟨(some 4), .mv (.c (.bool true)), none⟩] [4])
 .ret)))), [.tmp 4], 27⟩
theorem h_dSameAll : compFn Tryz.prog k_dSameAll 83 = some c_dSameAll := by kernel_rfl
/-- damask/damaskref02.samePats -/
abbrev f_gsamePats : FuncId := 84
def k_gsamePats : Tab := [(0, [], [0, 1]), (1, [], [0, 1, 10]), (2, [], [4]), (3, [], [0, 1, 12, 13]), (4, [], [0, 1, 12, 13, 14]), (5, [], [0, 1, 5, 12, 13]), (6, [0, 1, 2, 3, 4, 5, 6, 7, 8, 9], [0, 1, 12, 13, 25]), (7, [], [4]), (8, [], [0, 1, 12, 13]), (9, [], [4]), (999999, [10, 14, 25], [])]
def l_gsamePats_0 : ACode := (.seq (.reg [⟨(some 14), .bin .lss (.t 13) (.t 12), none⟩] [0, 1, 12, 13, 14])
 (.seq (.cond (.t 14) true
   .skip
   (.exit 0))
 (.seq (.block 1 (.seq (.reg [⟨(some 15), .mv (.t 13), none⟩,
     ⟨(some 5), .mv (.t 15), none⟩] [0, 1, 5, 12, 13])
   (.seq (.dreg [⟨⟨(some 16), .mv (.t 0), none⟩, []⟩,
     ⟨⟨(some 17), .mv (.t 5), none⟩, []⟩,
     ⟨⟨(some 18), .iaddr 4 (.t 16) (.t 17), none⟩, []⟩,
     ⟨⟨(some 19), .load (some 4) (.t 18), none⟩, []⟩,
     ⟨⟨(some 20), .mv (.t 1), none⟩, []⟩,
     ⟨⟨(some 21), .mv (.t 5), none⟩, []⟩,
     ⟨⟨(some 22), .iaddr 4 (.t 20) (.t 21), none⟩, []⟩,
     ⟨⟨(some 23), .load (some 4) (.t 22), none⟩, []⟩,
     ⟨⟨(some 24), .call (.f 161) [(.t 19), (.t 23)], none⟩, []⟩,
     ⟨⟨(some 25), .not (.t 24), none⟩, []⟩] [0, 1, 12, 13, 25])
   (.cond (.t 25) true
    (.seq (.reg [⟨(some 4), .mv (.c (.bool false)), none⟩] [4])
    .ret)
    .skip))))
 (.reg [⟨(some 26), .bin .add (.t 13) (.c (.int .i64 1)), none⟩,
  ⟨(some 13), .mv (.t 26), none⟩] [0, 1, 12, 13]))))
def c_gsamePats : AFn := ⟨(.seq (.reg [⟨(some 4), .mv (.c (.bool false)), none⟩] [0, 1])
 (.seq (.seq (.reg [⟨(some 6), .mv (.t 0), none⟩,
    ⟨(some 7), .lenL (.t 6), none⟩,
    ⟨(some 8), .mv (.t 1), none⟩,
    ⟨(some 9), .lenL (.t 8), none⟩,
    ⟨(some 10), .bin .neq (.t 7) (.t 9), none⟩] [0, 1, 10])
  (.cond (.t 10) true
   (.seq (.reg [⟨(some 4), .mv (.c (.bool false)), none⟩] [4])
   .ret)
   .skip))
 (.seq (.seq (.reg [⟨(some 11), .mv (.t 0), none⟩,
    ⟨(some 12), .lenL (.t 11), none⟩,
    ⟨(some 13), .mv (.c (.int .i64 0)), none⟩] [0, 1, 12, 13])
  (.block 0 (.loop l_gsamePats_0)))
 (.seq (.reg [⟨(some 4), .mv (.c (.bool true)), none⟩] [4])
 .ret)))), [.tmp 4], 27⟩
theorem h_gsamePats : compFn Tryz.prog k_gsamePats 84 = some c_gsamePats := by kernel_rfl
/-- damask/damaskref02.sameAlts -/
abbrev f_gsameAlts : FuncId := 85
def k_gsameAlts : Tab := [(0, [], [0, 1]), (1, [], [0, 1, 14]), (2, [], [4]), (3, [], [1, 15, 16, 17]), (4, [], [1, 15, 16, 17, 18]), (5, [], [1, 5, 6, 15, 16, 17]), (6, [], [1, 6, 7, 15, 16, 17]), (7, [], [1, 6, 7, 15, 16, 17, 48]), (8, [], [4]), (9, [], [1, 7, 15, 16, 17, 50, 51, 52]), (10, [], [1, 7, 15, 16, 17, 50, 51, 52, 53]), (11, [], [1, 7, 8, 9, 15, 16, 17, 50, 51, 52]), (12, [0, 1, 2, 3, 4, 5, 6, 7, 8, 9, 10, 11, 12, 13, 14, 15, 16, 17, 18, 19, 20, 21], [1, 7, 15, 16, 17, 50, 51, 52, 78]), (13, [], [4]), (14, [], [1, 7, 15, 16, 17, 50, 51, 52]), (15, [], [1, 15, 16, 17]), (16, [], [4]), (999999, [14, 18, 48, 53, 78], [])]
def l_gsameAlts_0 : ACode := (.seq (.reg [⟨(some 53), .bin .lss (.t 52) (.t 51), none⟩] [1, 7, 15, 16, 17, 50, 51, 52, 53])
 (.seq (.cond (.t 53) true
   .skip
   (.exit 2))
 (.seq (.block 3 (.seq (.reg [⟨(some 54), .mv (.t 52), none⟩,
     ⟨(some 55), .iaddr 11 (.t 50) (.t 52), none⟩,
     ⟨(some 56), .load (some 11) (.t 55), none⟩,
     ⟨(some 9), .alloc [(.sl [] .nil), (.int .i64 0), (.str []), (.int .i64 0), (.sl [] .nil), (.sl [] .nil), (.sl [] .nil), (.sl [] .nil), (.sl [] .nil), (.sl [] .nil), (.sl [] .nil)], none⟩,
     ⟨(some 8), .mv (.t 54), none⟩,
     ⟨none, .store 11 (.t 9) (.t 56), none⟩] [1, 7, 8, 9, 15, 16, 17, 50, 51, 52])
   (.seq (.dreg [⟨⟨(some 57), .faddr 0 (.t 9), none⟩, []⟩,
     ⟨⟨(some 58), .load none (.t 57), none⟩, []⟩,
     ⟨⟨(some 59), .faddr 1 (.t 7), none⟩, []⟩,
     ⟨⟨(some 60), .load none (.t 59), none⟩, []⟩,
     ⟨⟨(some 61), .mv (.t 8), none⟩, []⟩,
     ⟨⟨(some 62), .iaddr 11 (.t 60) (.t 61), none⟩, []⟩,
     ⟨⟨(some 63), .faddr 0 (.t 62), none⟩, []⟩,
     ⟨⟨(some 64), .load none (.t 63), none⟩, []⟩,
     ⟨⟨(some 65), .call (.f 82) [(.t 58), (.t 64)], none⟩, []⟩,
     ⟨⟨(some 66), .not (.t 65), none⟩, []⟩,
     ⟨⟨(some 67), .mv (.t 66), none⟩, []⟩,
     ⟨⟨(some 68), .faddr 1 (.t 9), (some (67, false))⟩, []⟩,
     ⟨⟨(some 69), .load (some 10) (.t 68), (some (67, false))⟩, []⟩,
     ⟨⟨(some 70), .faddr 1 (.t 7), (some (67, false))⟩, []⟩,
     ⟨⟨(some 71), .load none (.t 70), (some (67, false))⟩, []⟩,
     ⟨⟨(some 72), .mv (.t 8), (some (67, false))⟩, []⟩,
     ⟨⟨(some 73), .iaddr 11 (.t 71) (.t 72), (some (67, false))⟩, []⟩,
     ⟨⟨(some 74), .faddr 1 (.t 73), (some (67, false))⟩, []⟩,
     ⟨⟨(some 75), .load (some 10) (.t 74), (some (67, false))⟩, []⟩,
     ⟨⟨(some 76), .call (.f 31) [(.t 69), (.t 75)], (some (67, false))⟩, []⟩,
     ⟨⟨(some 77), .not (.t 76), (some (67, false))⟩, []⟩,
     ⟨⟨(some 78), .pick (.t 67) (.c (.bool true)) (.t 77), none⟩, []⟩] [1, 7, 15, 16, 17, 50, 51, 52, 78])
   (.cond (.t 78) true
    (.seq (.reg [⟨(some 4), .mv (.c (.bool false)), none⟩] [4])
    .ret)
    .skip))))
 (.reg [⟨(some 79), .bin .add (.t 52) (.c (.int .i64 1)), none⟩,
  ⟨(some 52), .mv (.t 79), none⟩] [1, 7, 15, 16, 17, 50, 51, 52]))))
def l_gsameAlts_1 : ACode := (.seq (.reg [⟨(some 18), .bin .lss (.t 17) (.t 16), none⟩] [1, 15, 16, 17, 18])
 (.seq (.cond (.t 18) true
   .skip
   (.exit 0))
 (.seq (.block 1 (.seq (.reg [⟨(some 19), .mv (.t 17), none⟩,
     ⟨(some 20), .iaddr 3 (.t 15) (.t 17), none⟩,
     ⟨(some 21), .load (some 3) (.t 20), none⟩,
     ⟨(some 6), .alloc [(.sl [] .nil), (.sl [] .nil), (.sl [] .nil)], none⟩,
     ⟨(some 5), .mv (.t 19), none⟩,
     ⟨none, .store 3 (.t 6) (.t 21), none⟩] [1, 5, 6, 15, 16, 17])
   (.seq (.reg [⟨(some 22), .mv (.t 1), none⟩,
     ⟨(some 23), .mv (.t 5), none⟩,
     ⟨(some 24), .iaddr 3 (.t 22) (.t 23), none⟩,
     ⟨(some 25), .load (some 3) (.t 24), none⟩,
     ⟨(some 7), .alloc [(.sl [] .nil), (.sl [] .nil), (.sl [] .nil)], none⟩,
     ⟨none, .store 3 (.t 7) (.t 25), none⟩] [1, 6, 7, 15, 16, 17])
   (.seq (.seq (.reg [⟨(some 26), .faddr 0 (.t 6), none⟩,
      ⟨(some 27), .load none (.t 26), none⟩,
      ⟨(some 28), .faddr 0 (.t 7), none⟩,
      ⟨(some 29), .load none (.t 28), none⟩,
      ⟨(some 30), .call (.f 84) [(.t 27), (.t 29)], none⟩,
      ⟨(some 31), .not (.t 30), none⟩,
      ⟨(some 32), .mv (.t 31), none⟩,
      ⟨(some 33), .faddr 1 (.t 6), (some (32, false))⟩,
      ⟨(some 34), .load none (.t 33), (some (32, false))⟩,
      ⟨(some 35), .lenL (.t 34), (some (32, false))⟩,
      ⟨(some 36), .faddr 1 (.t 7), (some (32, false))⟩,
      ⟨(some 37), .load none (.t 36), (some (32, false))⟩,
      ⟨(some 38), .lenL (.t 37), (some (32, false))⟩,
      ⟨(some 39), .bin .neq (.t 35) (.t 38), (some (32, false))⟩,
      ⟨(some 40), .pick (.t 32) (.c (.bool true)) (.t 39), none⟩,
      ⟨(some 41), .mv (.t 40), none⟩,
      ⟨(some 42), .faddr 2 (.t 6), (some (41, false))⟩,
      ⟨(some 43), .load none (.t 42), (some (41, false))⟩,
      ⟨(some 44), .faddr 2 (.t 7), (some (41, false))⟩,
      ⟨(some 45), .load none (.t 44), (some (41, false))⟩,
      ⟨(some 46), .call (.f 72) [(.t 43), (.t 45)], (some (41, false))⟩,
      ⟨(some 47), .not (.t 46), (some (41, false))⟩,
      ⟨(some 48), .pick (.t 41) (.c (.bool true)) (.t 47), none⟩] [1, 6, 7, 15, 16, 17, 48])
    (.cond (.t 48) true
     (.seq (.reg [⟨(some 4), .mv (.c (.bool false)), none⟩] [4])
     .ret)
     .skip))
   (.seq (.reg [⟨(some 49), .faddr 1 (.t 6), none⟩,
     ⟨(some 50), .load none (.t 49), none⟩,
     ⟨(some 51), .lenL (.t 50), none⟩,
     ⟨(some 52), .mv (.c (.int .i64 0)), none⟩] [1, 7, 15, 16, 17, 50, 51, 52])
   (.block 2 (.loop l_gsameAlts_0)))))))
 (.reg [⟨(some 80), .bin .add (.t 17) (.c (.int .i64 1)), none⟩,
  ⟨(some 17), .mv (.t 80), none⟩] [1, 15, 16, 17]))))
def c_gsameAlts : AFn := ⟨(.seq (.reg [⟨(some 4), .mv (.c (.bool false)), none⟩] [0, 1])
 (.seq (.seq (.reg [⟨(some 10), .mv (.t 0), none⟩,
    ⟨(some 11), .lenL (.t 10), none⟩,
    ⟨(some 12), .mv (.t 1), none⟩,
    ⟨(some 13), .lenL (.t 12), none⟩,
    ⟨(some 14), .bin .neq (.t 11) (.t 13), none⟩] [0, 1, 14])
  (.cond (.t 14) true
   (.seq (.reg [⟨(some 4), .mv (.c (.bool false)), none⟩] [4])
   .ret)
   .skip))
 (.seq (.seq (.reg [⟨(some 15), .mv (.t 0), none⟩,
    ⟨(some 16), .lenL (.t 15), none⟩,
    ⟨(some 17), .mv (.c (.int .i64 0)), none⟩] [1, 15, 16, 17])
  (.block 0 (.loop l_gsameAlts_1)))
 (.seq (.reg [⟨(some 4), .mv (.c (.bool true)), none⟩] [4])
 .ret)))), [.tmp 4], 81⟩
theorem h_gsameAlts : compFn Tryz.prog k_gsameAlts 85 = some c_gsameAlts := by kernel_rfl
/-- damask/syntax.sameDecl$1 -/
abbrev f_ssameDecl_1 : FuncId := 148
def k_ssameDecl_1 : Tab := [(0, [], [2, 3]), (1, [], [4])]
def c_ssameDecl_1 : AFn := ⟨(.seq (.reg [⟨(some 2), .box (.t 0), none⟩,
   ⟨(some 3), .box (.t 1), none⟩,
   ⟨(some 4), .mv (.c (.bool false)), none⟩] [2, 3])
 (.seq (.reg [⟨(some 5), .faddr 0 (.t 2), none⟩,
   ⟨(some 6), .load none (.t 5), none⟩,
   ⟨(some 7), .faddr 0 (.t 3), none⟩,
   ⟨(some 8), .load none (.t 7), none⟩,
   ⟨(some 9), .bin .eql (.t 6) (.t 8), none⟩,
   ⟨(some 10), .mv (.t 9), none⟩,
   ⟨(some 11), .faddr 1 (.t 2), (some (10, true))⟩,
   ⟨(some 12), .load (some 4) (.t 11), (some (10, true))⟩,
   ⟨(some 13), .faddr 1 (.t 3), (some (10, true))⟩,
   ⟨(some 14), .load (some 4) (.t 13), (some (10, true))⟩,
   ⟨(some 15), .call (.f 28) [(.t 12), (.t 14)], (some (10, true))⟩,
   ⟨(some 16), .pick (.t 10) (.t 15) (.c (.bool false)), none⟩,
   ⟨(some 17), .mv (.t 16), none⟩,
   ⟨(some 18), .faddr 5 (.t 2), (some (17, true))⟩,
   ⟨(some 19), .load none (.t 18), (some (17, true))⟩,
   ⟨(some 20), .faddr 5 (.t 3), (some (17, true))⟩,
   ⟨(some 21), .load none (.t 20), (some (17, true))⟩,
   ⟨(some 22), .call (.f 68) [(.t 19), (.t 21)], (some (17, true))⟩,
   ⟨(some 23), .pick (.t 17) (.t 22) (.c (.bool false)), none⟩,
   ⟨(some 4), .mv (.t 23), none⟩] [4])
 .ret)), [.tmp 4], 24⟩
theorem h_ssameDecl_1 : compFn Tryz.prog k_ssameDecl_1 148 = some c_ssameDecl_1 := by kernel_rfl
/-- damask/syntax.sameDecl$2 -/
abbrev f_ssameDecl_2 : FuncId := 149
def k_ssameDecl_2 : Tab := [(0, [], [2, 3]), (1, [], [4])]
def c_ssameDecl_2 : AFn := ⟨(.seq (.reg [⟨(some 2), .box (.t 0), none⟩,
   ⟨(some 3), .box (.t 1), none⟩,
   ⟨(some 4), .mv (.c (.bool false)), none⟩] [2, 3])
 (.seq (.reg [⟨(some 5), .faddr 0 (.t 2), none⟩,
   ⟨(some 6), .load (some 4) (.t 5), none⟩,
   ⟨(some 7), .faddr 0 (.t 3), none⟩,
   ⟨(some 8), .load (some 4) (.t 7), none⟩,
   ⟨(some 9), .call (.f 28) [(.t 6), (.t 8)], none⟩,
   ⟨(some 10), .mv (.t 9), none⟩,
   ⟨(some 11), .faddr 4 (.t 2), (some (10, true))⟩,
   ⟨(some 12), .load (some 4) (.t 11), (some (10, true))⟩,
   ⟨(some 13), .faddr 4 (.t 3), (some (10, true))⟩,
   ⟨(some 14), .load (some 4) (.t 13), (some (10, true))⟩,
   ⟨(some 15), .call (.f 28) [(.t 12), (.t 14)], (some (10, true))⟩,
   ⟨(some 16), .pick (.t 10) (.t 15) (.c (.bool false)), none⟩,
   ⟨(some 4), .mv (.t 16), none⟩] [4])
 .ret)), [.tmp 4], 17⟩
theorem h_ssameDecl_2 : compFn Tryz.prog k_ssameDecl_2 149 = some c_ssameDecl_2 := by kernel_rfl
/-- damask/syntax.sameDecl$3 -/
abbrev f_ssameDecl_3 : FuncId := 150
def k_ssameDecl_3 : Tab := [(0, [], [2, 3]), (1, [], [4])]
def c_ssameDecl_3 : AFn := ⟨(.seq (.reg [⟨(some 2), .box (.t 0), none⟩,
   ⟨(some 3), .box (.t 1), none⟩,
   ⟨(some 4), .mv (.c (.bool false)), none⟩] [2, 3])
 (.seq (.reg [⟨(some 5), .faddr 0 (.t 2), none⟩,
   ⟨(some 6), .load none (.t 5), none⟩,
   ⟨(some 7), .faddr 0 (.t 3), none⟩,
   ⟨(some 8), .load none (.t 7), none⟩,
   ⟨(some 9), .bin .eql (.t 6) (.t 8), none⟩,
   ⟨(some 10), .mv (.t 9), none⟩,
   ⟨(some 11), .faddr 1 (.t 2), (some (10, true))⟩,
   ⟨(some 12), .load (some 4) (.t 11), (some (10, true))⟩,
   ⟨(some 13), .faddr 1 (.t 3), (some (10, true))⟩,
   ⟨(some 14), .load (some 4) (.t 13), (some (10, true))⟩,
   ⟨(some 15), .call (.f 28) [(.t 12), (.t 14)], (some (10, true))⟩,
   ⟨(some 16), .pick (.t 10) (.t 15) (.c (.bool false)), none⟩,
   ⟨(some 4), .mv (.t 16), none⟩] [4])
 .ret)), [.tmp 4], 17⟩
theorem h_ssameDecl_3 : compFn Tryz.prog k_ssameDecl_3 150 = some c_ssameDecl_3 := by kernel_rfl
/-- damask/syntax.sameDecl$4 -/
abbrev f_ssameDecl_4 : FuncId := 151
def k_ssameDecl_4 : Tab := [(0, [], [2, 3]), (1, [], [4])]
def c_ssameDecl_4 : AFn := ⟨(.seq (.reg [⟨(some 2), .box (.t 0), none⟩,
   ⟨(some 3), .box (.t 1), none⟩,
   ⟨(some 4), .mv (.c (.bool false)), none⟩] [2, 3])
 (.seq (.reg [⟨(some 5), .faddr 0 (.t 2), none⟩,
   ⟨(some 6), .load none (.t 5), none⟩,
   ⟨(some 7), .faddr 0 (.t 3), none⟩,
   ⟨(some 8), .load none (.t 7), none⟩,
   ⟨(some 9), .call (.f 68) [(.t 6), (.t 8)], none⟩,
   ⟨(some 10), .mv (.t 9), none⟩,
   ⟨(some 11), .faddr 1 (.t 2), (some (10, true))⟩,
   ⟨(some 12), .load none (.t 11), (some (10, true))⟩,
   ⟨(some 13), .faddr 1 (.t 3), (some (10, true))⟩,
   ⟨(some 14), .load none (.t 13), (some (10, true))⟩,
   ⟨(some 15), .call (.f 68) [(.t 12), (.t 14)], (some (10, true))⟩,
   ⟨(some 16), .pick (.t 10) (.t 15) (.c (.bool false)), none⟩,
   ⟨(some 4), .mv (.t 16), none⟩] [4])
 .ret)), [.tmp 4], 17⟩
theorem h_ssameDecl_4 : compFn Tryz.prog k_ssameDecl_4 151 = some c_ssameDecl_4 := by kernel_rfl
/-- damask/syntax.sameDecl$5 -/
abbrev f_ssameDecl_5 : FuncId := 152
def k_ssameDecl_5 : Tab := [(0, [], [2, 3]), (1, [], [4])]
def c_ssameDecl_5 : AFn := ⟨(.seq (.reg [⟨(some 2), .box (.t 0), none⟩,
   ⟨(some 3), .box (.t 1), none⟩,
   ⟨(some 4), .mv (.c (.bool false)), none⟩] [2, 3])
 (.seq (.reg [⟨(some 5), .faddr 0 (.t 2), none⟩,
   ⟨(some 6), .load none (.t 5), none⟩,
   ⟨(some 7), .faddr 0 (.t 3), none⟩,
   ⟨(some 8), .load none (.t 7), none⟩,
   ⟨(some 9), .bin .eql (.t 6) (.t 8), none⟩,
   ⟨(some 10), .mv (.t 9), none⟩,
   ⟨(some 11), .faddr 1 (.t 2), (some (10, true))⟩,
   ⟨(some 12), .load (some 4) (.t 11), (some (10, true))⟩,
   ⟨(some 13), .faddr 1 (.t 3), (some (10, true))⟩,
   ⟨(some 14), .load (some 4) (.t 13), (some (10, true))⟩,
   ⟨(some 15), .call (.f 28) [(.t 12), (.t 14)], (some (10, true))⟩,
   ⟨(some 16), .pick (.t 10) (.t 15) (.c (.bool false)), none⟩,
   ⟨(some 4), .mv (.t 16), none⟩] [4])
 .ret)), [.tmp 4], 17⟩
theorem h_ssameDecl_5 : compFn Tryz.prog k_ssameDecl_5 152 = some c_ssameDecl_5 := by kernel_rfl
/-- slices.EqualFunc[[]damask/api.Con,[]damask/api.Con,damask/api.Con,damask/api.Con] -/
abbrev f_eqfCon : FuncId := 153
def k_eqfCon : Tab := [(0, [], [0, 1, 2]), (1, [], [0, 1, 2, 14]), (2, [], [6]), (3, [], [1, 2, 15, 16, 17]), (4, [], [1, 2, 15, 16, 17, 18]), (5, [], [1, 2, 7, 8, 15, 16, 17]), (6, [], [1, 2, 8, 9, 15, 16, 17]), (7, [], [1, 2, 15, 16, 17, 30]), (8, [], [6]), (9, [], [1, 2, 15, 16, 17]), (10, [], [6]), (999999, [14, 18, 30], [])]
def l_eqfCon_0 : ACode := (.seq (.reg [⟨(some 18), .bin .lss (.t 17) (.t 16), none⟩] [1, 2, 15, 16, 17, 18])
 (.seq (.cond (.t 18) true
   .skip
   (.exit 0))
 (.seq (.block 1 (.seq (.reg [⟨(some 19), .mv (.t 17), none⟩,
     ⟨(some 20), .iaddr 6 (.t 15) (.t 17), none⟩,
     ⟨(some 21), .load (some 6) (.t 20), none⟩,
     ⟨(some 8), .alloc [(.str []), (.int .i64 0), (.int .i64 0), (.str []), (.sl [] .nil), (.sl [] .nil)], none⟩,
     ⟨(some 7), .mv (.t 19), none⟩,
     ⟨none, .store 6 (.t 8) (.t 21), none⟩] [1, 2, 7, 8, 15, 16, 17])
   (.seq (.reg [⟨(some 22), .mv (.t 1), none⟩,
     ⟨(some 23), .mv (.t 7), none⟩,
     ⟨(some 24), .iaddr 6 (.t 22) (.t 23), none⟩,
     ⟨(some 25), .load (some 6) (.t 24), none⟩,
     ⟨(some 9), .alloc [(.str []), (.int .i64 0), (.int .i64 0), (.str []), (.sl [] .nil), (.sl [] .nil)], none⟩,
     ⟨none, .store 6 (.t 9) (.t 25), none⟩] [1, 2, 8, 9, 15, 16, 17])
   (.seq (.reg [⟨(some 26), .mv (.t 2), none⟩,
     ⟨(some 27), .load (some 6) (.t 8), none⟩,
     ⟨(some 28), .load (some 6) (.t 9), none⟩,
     ⟨(some 29), .call (.t 26) [(.t 27), (.t 28)], none⟩,
     ⟨(some 30), .not (.t 29), none⟩] [1, 2, 15, 16, 17, 30])
   (.cond (.t 30) true
    (.seq (.reg [⟨(some 6), .mv (.c (.bool false)), none⟩] [6])
    .ret)
    .skip)))))
 (.reg [⟨(some 31), .bin .add (.t 17) (.c (.int .i64 1)), none⟩,
  ⟨(some 17), .mv (.t 31), none⟩] [1, 2, 15, 16, 17]))))
def c_eqfCon : AFn := ⟨(.seq (.reg [⟨(some 6), .mv (.c (.bool false)), none⟩] [0, 1, 2])
 (.seq (.seq (.reg [⟨(some 10), .mv (.t 0), none⟩,
    ⟨(some 11), .lenL (.t 10), none⟩,
    ⟨(some 12), .mv (.t 1), none⟩,
    ⟨(some 13), .lenL (.t 12), none⟩,
    ⟨(some 14), .bin .neq (.t 11) (.t 13), none⟩] [0, 1, 2, 14])
  (.cond (.t 14) true
   (.seq (.reg [⟨(some 6), .mv (.c (.bool false)), none⟩] [6])
   .ret)
   .skip))
 (.seq (.seq (.reg [⟨(some 15), .mv (.t 0), none⟩,
    ⟨(some 16), .lenL (.t 15), none⟩,
    ⟨(some 17), .mv (.c (.int .i64 0)), none⟩] [1, 2, 15, 16, 17])
  (.block 0 (.loop l_eqfCon_0)))
 (.seq (.reg [⟨(some 6), .mv (.c (.bool true)), none⟩] [6])
 .ret)))), [.tmp 6], 32⟩
theorem h_eqfCon : compFn Tryz.prog k_eqfCon 153 = some c_eqfCon := by kernel_rfl
/-- slices.EqualFunc[[]damask/api.Eq,[]damask/api.Eq,damask/api.Eq,damask/api.Eq] -/
abbrev f_eqfEq : FuncId := 154
def k_eqfEq : Tab := [(0, [], [0, 1, 2]), (1, [], [0, 1, 2, 14]), (2, [], [6]), (3, [], [1, 2, 15, 16, 17]), (4, [], [1, 2, 15, 16, 17, 18]), (5, [], [1, 2, 7, 8, 15, 16, 17]), (6, [], [1, 2, 8, 9, 15, 16, 17]), (7, [], [1, 2, 15, 16, 17, 30]), (8, [], [6]), (9, [], [1, 2, 15, 16, 17]), (10, [], [6]), (999999, [14, 18, 30], [])]
def l_eqfEq_0 : ACode := (.seq (.reg [⟨(some 18), .bin .lss (.t 17) (.t 16), none⟩] [1, 2, 15, 16, 17, 18])
 (.seq (.cond (.t 18) true
   .skip
   (.exit 0))
 (.seq (.block 1 (.seq (.reg [⟨(some 19), .mv (.t 17), none⟩,
     ⟨(some 20), .iaddr 8 (.t 15) (.t 17), none⟩,
     ⟨(some 21), .load (some 8) (.t 20), none⟩,
     ⟨(some 8), .alloc [(.int .i64 0), (.int .i64 0), (.str []), (.sl [] .nil), (.int .i64 0), (.int .i64 0), (.str []), (.sl [] .nil)], none⟩,
     ⟨(some 7), .mv (.t 19), none⟩,
     ⟨none, .store 8 (.t 8) (.t 21), none⟩] [1, 2, 7, 8, 15, 16, 17])
   (.seq (.reg [⟨(some 22), .mv (.t 1), none⟩,
     ⟨(some 23), .mv (.t 7), none⟩,
     ⟨(some 24), .iaddr 8 (.t 22) (.t 23), none⟩,
     ⟨(some 25), .load (some 8) (.t 24), none⟩,
     ⟨(some 9), .alloc [(.int .i64 0), (.int .i64 0), (.str []), (.sl [] .nil), (.int .i64 0), (.int .i64 0), (.str []), (.sl [] .nil)], none⟩,
     ⟨none, .store 8 (.t 9) (.t 25), none⟩] [1, 2, 8, 9, 15, 16, 17])
   (.seq (.reg [⟨(some 26), .mv (.t 2), none⟩,
     ⟨(some 27), .load (some 8) (.t 8), none⟩,
     ⟨(some 28), .load (some 8) (.t 9), none⟩,
     ⟨(some 29), .call (.t 26) [(.t 27), (.t 28)], none⟩,
     ⟨(some 30), .not (.t 29), none⟩] [1, 2, 15, 16, 17, 30])
   (.cond (.t 30) true
    (.seq (.reg [⟨(some 6), .mv (.c (.bool false)), none⟩] [6])
    .ret)
    .skip)))))
 (.reg [⟨(some 31), .bin .add (.t 17) (.c (.int .i64 1)), none⟩,
  ⟨(some 17), .mv (.t 31), none⟩] [1, 2, 15, 16, 17]))))
def c_eqfEq : AFn := ⟨(.seq (.reg [⟨(some 6), .mv (.c (.bool false)), none⟩] [0, 1, 2])
 (.seq (.seq (.reg [⟨(some 10), .mv (.t 0), none⟩,
    ⟨(some 11), .lenL (.t 10), none⟩,
    ⟨(some 12), .mv (.t 1), none⟩,
    ⟨(some 13), .lenL (.t 12), none⟩,
    ⟨(some 14), .bin .neq (.t 11) (.t 13), none⟩] [0, 1, 2, 14])
  (.cond (.t 14) true
   (.seq (.reg [⟨(some 6), .mv (.c (.bool false)), none⟩] [6])
   .ret)
   .skip))
 (.seq (.seq (.reg [⟨(some 15), .mv (.t 0), none⟩,
    ⟨(some 16), .lenL (.t 15), none⟩,
    ⟨(some 17), .mv (.c (.int .i64 0)), none⟩] [1, 2, 15, 16, 17])
  (.block 0 (.loop l_eqfEq_0)))
 (.seq (.reg [⟨(some 6), .mv (.c (.bool true)), none⟩] [6])
 .ret)))), [.tmp 6], 32⟩
theorem h_eqfEq : compFn Tryz.prog k_eqfEq 154 = some c_eqfEq := by kernel_rfl
/-- slices.EqualFunc[[]damask/api.Binder,[]damask/api.Binder,damask/api.Binder,damask/api.Binder] -/
abbrev f_eqfBinder : FuncId := 155
def k_eqfBinder : Tab := [(0, [], [0, 1, 2]), (1, [], [0, 1, 2, 14]), (2, [], [6]), (3, [], [1, 2, 15, 16, 17]), (4, [], [1, 2, 15, 16, 17, 18]), (5, [], [1, 2, 7, 8, 15, 16, 17]), (6, [], [1, 2, 8, 9, 15, 16, 17]), (7, [], [1, 2, 15, 16, 17, 30]), (8, [], [6]), (9, [], [1, 2, 15, 16, 17]), (10, [], [6]), (999999, [14, 18, 30], [])]
def l_eqfBinder_0 : ACode := (.seq (.reg [⟨(some 18), .bin .lss (.t 17) (.t 16), none⟩] [1, 2, 15, 16, 17, 18])
 (.seq (.cond (.t 18) true
   .skip
   (.exit 0))
 (.seq (.block 1 (.seq (.reg [⟨(some 19), .mv (.t 17), none⟩,
     ⟨(some 20), .iaddr 5 (.t 15) (.t 17), none⟩,
     ⟨(some 21), .load (some 5) (.t 20), none⟩,
     ⟨(some 8), .alloc [(.str []), (.int .i64 0), (.int .i64 0), (.str []), (.sl [] .nil)], none⟩,
     ⟨(some 7), .mv (.t 19), none⟩,
     ⟨none, .store 5 (.t 8) (.t 21), none⟩] [1, 2, 7, 8, 15, 16, 17])
   (.seq (.reg [⟨(some 22), .mv (.t 1), none⟩,
     ⟨(some 23), .mv (.t 7), none⟩,
     ⟨(some 24), .iaddr 5 (.t 22) (.t 23), none⟩,
     ⟨(some 25), .load (some 5) (.t 24), none⟩,
     ⟨(some 9), .alloc [(.str []), (.int .i64 0), (.int .i64 0), (.str []), (.sl [] .nil)], none⟩,
     ⟨none, .store 5 (.t 9) (.t 25), none⟩] [1, 2, 8, 9, 15, 16, 17])
   (.seq (.reg [⟨(some 26), .mv (.t 2), none⟩,
     ⟨(some 27), .load (some 5) (.t 8), none⟩,
     ⟨(some 28), .load (some 5) (.t 9), none⟩,
     ⟨(some 29), .call (.t 26) [(.t 27), (.t 28)], none⟩,
     ⟨(some 30), .not (.t 29), none⟩] [1, 2, 15, 16, 17, 30])
   (.cond (.t 30) true
    (.seq (.reg [⟨(some 6), .mv (.c (.bool false)), none⟩] [6])
    .ret)
    .skip)))))
 (.reg [⟨(some 31), .bin .add (.t 17) (.c (.int .i64 1)), none⟩,
  ⟨(some 17), .mv (.t 31), none⟩] [1, 2, 15, 16, 17]))))
def c_eqfBinder : AFn := ⟨(.seq (.reg [⟨(some 6), .mv (.c (.bool false)), none⟩] [0, 1, 2])
 (.seq (.seq (.reg [⟨(some 10), .mv (.t 0), none⟩,
    ⟨(some 11), .lenL (.t 10), none⟩,
    ⟨(some 12), .mv (.t 1), none⟩,
    ⟨(some 13), .lenL (.t 12), none⟩,
    ⟨(some 14), .bin .neq (.t 11) (.t 13), none⟩] [0, 1, 2, 14])
  (.cond (.t 14) true
   (.seq (.reg [⟨(some 6), .mv (.c (.bool false)), none⟩] [6])
   .ret)
   .skip))
 (.seq (.seq (.reg [⟨(some 15), .mv (.t 0), none⟩,
    ⟨(some 16), .lenL (.t 15), none⟩,
    ⟨(some 17), .mv (.c (.int .i64 0)), none⟩] [1, 2, 15, 16, 17])
  (.block 0 (.loop l_eqfBinder_0)))
 (.seq (.reg [⟨(some 6), .mv (.c (.bool true)), none⟩] [6])
 .ret)))), [.tmp 6], 32⟩
theorem h_eqfBinder : compFn Tryz.prog k_eqfBinder 155 = some c_eqfBinder := by kernel_rfl
/-- slices.EqualFunc[[]damask/api.Dep,[]damask/api.Dep,damask/api.Dep,damask/api.Dep] -/
abbrev f_eqfDep : FuncId := 156
def k_eqfDep : Tab := [(0, [], [0, 1, 2]), (1, [], [0, 1, 2, 14]), (2, [], [6]), (3, [], [1, 2, 15, 16, 17]), (4, [], [1, 2, 15, 16, 17, 18]), (5, [], [1, 2, 7, 8, 15, 16, 17]), (6, [], [1, 2, 8, 9, 15, 16, 17]), (7, [], [1, 2, 15, 16, 17, 30]), (8, [], [6]), (9, [], [1, 2, 15, 16, 17]), (10, [], [6]), (999999, [14, 18, 30], [])]
def l_eqfDep_0 : ACode := (.seq (.reg [⟨(some 18), .bin .lss (.t 17) (.t 16), none⟩] [1, 2, 15, 16, 17, 18])
 (.seq (.cond (.t 18) true
   .skip
   (.exit 0))
 (.seq (.block 1 (.seq (.reg [⟨(some 19), .mv (.t 17), none⟩,
     ⟨(some 20), .iaddr 2 (.t 15) (.t 17), none⟩,
     ⟨(some 21), .load (some 2) (.t 20), none⟩,
     ⟨(some 8), .alloc [(.sl [] .nil), (.sl [] .nil)], none⟩,
     ⟨(some 7), .mv (.t 19), none⟩,
     ⟨none, .store 2 (.t 8) (.t 21), none⟩] [1, 2, 7, 8, 15, 16, 17])
   (.seq (.reg [⟨(some 22), .mv (.t 1), none⟩,
     ⟨(some 23), .mv (.t 7), none⟩,
     ⟨(some 24), .iaddr 2 (.t 22) (.t 23), none⟩,
     ⟨(some 25), .load (some 2) (.t 24), none⟩,
     ⟨(some 9), .alloc [(.sl [] .nil), (.sl [] .nil)], none⟩,
     ⟨none, .store 2 (.t 9) (.t 25), none⟩] [1, 2, 8, 9, 15, 16, 17])
   (.seq (.reg [⟨(some 26), .mv (.t 2), none⟩,
     ⟨(some 27), .load (some 2) (.t 8), none⟩,
     ⟨(some 28), .load (some 2) (.t 9), none⟩,
     ⟨(some 29), .call (.t 26) [(.t 27), (.t 28)], none⟩,
     ⟨(some 30), .not (.t 29), none⟩] [1, 2, 15, 16, 17, 30])
   (.cond (.t 30) true
    (.seq (.reg [⟨(some 6), .mv (.c (.bool false)), none⟩] [6])
    .ret)
    .skip)))))
 (.reg [⟨(some 31), .bin .add (.t 17) (.c (.int .i64 1)), none⟩,
  ⟨(some 17), .mv (.t 31), none⟩] [1, 2, 15, 16, 17]))))
def c_eqfDep : AFn := ⟨(.seq (.reg [⟨(some 6), .mv (.c (.bool false)), none⟩] [0, 1, 2])
 (.seq (.seq (.reg [⟨(some 10), .mv (.t 0), none⟩,
    ⟨(some 11), .lenL (.t 10), none⟩,
    ⟨(some 12), .mv (.t 1), none⟩,
    ⟨(some 13), .lenL (.t 12), none⟩,
    ⟨(some 14), .bin .neq (.t 11) (.t 13), none⟩] [0, 1, 2, 14])
  (.cond (.t 14) true
   (.seq (.reg [⟨(some 6), .mv (.c (.bool false)), none⟩] [6])
   .ret)
   .skip))
 (.seq (.seq (.reg [⟨(some 15), .mv (.t 0), none⟩,
    ⟨(some 16), .lenL (.t 15), none⟩,
    ⟨(some 17), .mv (.c (.int .i64 0)), none⟩] [1, 2, 15, 16, 17])
  (.block 0 (.loop l_eqfDep_0)))
 (.seq (.reg [⟨(some 6), .mv (.c (.bool true)), none⟩] [6])
 .ret)))), [.tmp 6], 32⟩
theorem h_eqfDep : compFn Tryz.prog k_eqfDep 156 = some c_eqfDep := by kernel_rfl
/-- slices.EqualFunc[[]damask/api.Sig,[]damask/api.Sig,damask/api.Sig,damask/api.Sig] -/
abbrev f_eqfSig : FuncId := 157
def k_eqfSig : Tab := [(0, [], [0, 1, 2]), (1, [], [0, 1, 2, 14]), (2, [], [6]), (3, [], [1, 2, 15, 16, 17]), (4, [], [1, 2, 15, 16, 17, 18]), (5, [], [1, 2, 7, 8, 15, 16, 17]), (6, [], [1, 2, 8, 9, 15, 16, 17]), (7, [], [1, 2, 15, 16, 17, 30]), (8, [], [6]), (9, [], [1, 2, 15, 16, 17]), (10, [], [6]), (999999, [14, 18, 30], [])]
def l_eqfSig_0 : ACode := (.seq (.reg [⟨(some 18), .bin .lss (.t 17) (.t 16), none⟩] [1, 2, 15, 16, 17, 18])
 (.seq (.cond (.t 18) true
   .skip
   (.exit 0))
 (.seq (.block 1 (.seq (.reg [⟨(some 19), .mv (.t 17), none⟩,
     ⟨(some 20), .iaddr 5 (.t 15) (.t 17), none⟩,
     ⟨(some 21), .load (some 5) (.t 20), none⟩,
     ⟨(some 8), .alloc [(.str []), (.int .i64 0), (.int .i64 0), (.str []), (.sl [] .nil)], none⟩,
     ⟨(some 7), .mv (.t 19), none⟩,
     ⟨none, .store 5 (.t 8) (.t 21), none⟩] [1, 2, 7, 8, 15, 16, 17])
   (.seq (.reg [⟨(some 22), .mv (.t 1), none⟩,
     ⟨(some 23), .mv (.t 7), none⟩,
     ⟨(some 24), .iaddr 5 (.t 22) (.t 23), none⟩,
     ⟨(some 25), .load (some 5) (.t 24), none⟩,
     ⟨(some 9), .alloc [(.str []), (.int .i64 0), (.int .i64 0), (.str []), (.sl [] .nil)], none⟩,
     ⟨none, .store 5 (.t 9) (.t 25), none⟩] [1, 2, 8, 9, 15, 16, 17])
   (.seq (.reg [⟨(some 26), .mv (.t 2), none⟩,
     ⟨(some 27), .load (some 5) (.t 8), none⟩,
     ⟨(some 28), .load (some 5) (.t 9), none⟩,
     ⟨(some 29), .call (.t 26) [(.t 27), (.t 28)], none⟩,
     ⟨(some 30), .not (.t 29), none⟩] [1, 2, 15, 16, 17, 30])
   (.cond (.t 30) true
    (.seq (.reg [⟨(some 6), .mv (.c (.bool false)), none⟩] [6])
    .ret)
    .skip)))))
 (.reg [⟨(some 31), .bin .add (.t 17) (.c (.int .i64 1)), none⟩,
  ⟨(some 17), .mv (.t 31), none⟩] [1, 2, 15, 16, 17]))))
def c_eqfSig : AFn := ⟨(.seq (.reg [⟨(some 6), .mv (.c (.bool false)), none⟩] [0, 1, 2])
 (.seq (.seq (.reg [⟨(some 10), .mv (.t 0), none⟩,
    ⟨(some 11), .lenL (.t 10), none⟩,
    ⟨(some 12), .mv (.t 1), none⟩,
    ⟨(some 13), .lenL (.t 12), none⟩,
    ⟨(some 14), .bin .neq (.t 11) (.t 13), none⟩] [0, 1, 2, 14])
  (.cond (.t 14) true
   (.seq (.reg [⟨(some 6), .mv (.c (.bool false)), none⟩] [6])
   .ret)
   .skip))
 (.seq (.seq (.reg [⟨(some 15), .mv (.t 0), none⟩,
    ⟨(some 16), .lenL (.t 15), none⟩,
    ⟨(some 17), .mv (.c (.int .i64 0)), none⟩] [1, 2, 15, 16, 17])
  (.block 0 (.loop l_eqfSig_0)))
 (.seq (.reg [⟨(some 6), .mv (.c (.bool true)), none⟩] [6])
 .ret)))), [.tmp 6], 32⟩
theorem h_eqfSig : compFn Tryz.prog k_eqfSig 157 = some c_eqfSig := by kernel_rfl
/-- damask/damaskref02.SameDecl -/
abbrev f_gSameDecl : FuncId := 158
def k_gSameDecl : Tab := [(0, [], [2, 3]), (1, [], [2, 3, 86]), (2, [], [4]), (3, [], [2, 3, 120]), (4, [], [4]), (5, [], [2, 3, 122, 123, 124]), (6, [], [2, 3, 122, 123, 124, 125]), (7, [], [2, 3, 5, 6, 122, 123, 124]), (8, [0, 1, 2, 3, 4, 5, 6, 7, 8, 9, 10, 11, 12, 13, 14, 15, 16, 17, 18, 19, 20, 21, 22, 23, 24, 25, 26, 27, 28, 29, 30, 31, 32], [2, 3, 122, 123, 124, 161]), (9, [], [4]), (10, [], [2, 3, 122, 123, 124]), (11, [], [2, 3, 164, 165, 166]), (12, [], [2, 3, 164, 165, 166, 167]), (13, [], [2, 3, 7, 8, 164, 165, 166]), (14, [0, 1, 2, 3, 4, 5, 6, 7, 8, 9, 10, 11, 12, 13, 14, 15, 16, 17, 18, 19, 20, 21], [2, 3, 164, 165, 166, 192]), (15, [], [4]), (16, [], [2, 3, 164, 165, 166]), (17, [], [2, 3, 195, 196, 197]), (18, [], [2, 3, 195, 196, 197, 198]), (19, [], [2, 3, 9, 10, 195, 196, 197]), (20, [0, 1, 2, 3, 4, 5, 6, 7, 8, 9, 10, 11, 12, 13, 14, 15, 16, 17, 18, 19, 20], [2, 3, 195, 196, 197, 222]), (21, [], [4]), (22, [], [2, 3, 195, 196, 197]), (23, [], [3, 225, 226, 227]), (24, [], [3, 225, 226, 227, 228]), (25, [], [3, 11, 12, 225, 226, 227]), (26, [0, 1, 2, 3, 4, 5, 6, 7, 8, 9, 10, 11, 12, 13, 14, 15, 16, 17, 18, 19, 20, 21], [3, 225, 226, 227, 253]), (27, [], [4]), (28, [], [3, 225, 226, 227]), (29, [], [4]), (999999, [86, 120, 125, 161, 167, 192, 198, 222, 228, 253], [])]
def l_gSameDecl_0 : ACode := (.seq (.reg [⟨(some 125), .bin .lss (.t 124) (.t 123), none⟩] [2, 3, 122, 123, 124, 125])
 (.seq (.cond (.t 125) true
   .skip
   (.exit 0))
 (.seq (.block 1 (.seq (.reg [⟨(some 126), .mv (.t 124), none⟩,
     ⟨(some 127), .iaddr 6 (.t 122) (.t 124), none⟩,
     ⟨(some 128), .load (some 6) (.t 127), none⟩,
     ⟨(some 6), .alloc [(.str []), (.int .i64 0), (.int .i64 0), (.str []), (.sl [] .nil), (.sl [] .nil)], none⟩,
     ⟨(some 5), .mv (.t 126), none⟩,
     ⟨none, .store 6 (.t 6) (.t 128), none⟩] [2, 3, 5, 6, 122, 123, 124])
   (.seq (.dreg [⟨⟨(some 129), .faddr 0 (.t 6), none⟩, []⟩,
     ⟨⟨(some 130), .load none (.t 129), none⟩, []⟩,
     ⟨⟨(some 131), .faddr 8 (.t 3), none⟩, []⟩,
     ⟨⟨(some 132), .load none (.t 131), none⟩, []⟩,
     ⟨⟨(some 133), .mv (.t 5), none⟩, []⟩,
     ⟨⟨(some 134), .iaddr 6 (.t 132) (.t 133), none⟩, []⟩,
     ⟨⟨(some 135), .faddr 0 (.t 134), none⟩, []⟩,
     ⟨⟨(some 136), .load none (.t 135), none⟩, []⟩,
     ⟨⟨(some 137), .bin .neq (.t 130) (.t 136), none⟩, []⟩,
     ⟨⟨(some 138), .mv (.t 137), none⟩, []⟩,
     ⟨⟨(some 139), .faddr 1 (.t 6), (some (138, false))⟩, []⟩,
     ⟨⟨(some 140), .load (some 4) (.t 139), (some (138, false))⟩, []⟩,
     ⟨⟨(some 141), .faddr 8 (.t 3), (some (138, false))⟩, []⟩,
     ⟨⟨(some 142), .load none (.t 141), (some (138, false))⟩, []⟩,
     ⟨⟨(some 143), .mv (.t 5), (some (138, false))⟩, []⟩,
     ⟨⟨(some 144), .iaddr 6 (.t 142) (.t 143), (some (138, false))⟩, []⟩,
     ⟨⟨(some 145), .faddr 1 (.t 144), (some (138, false))⟩, []⟩,
     ⟨⟨(some 146), .load (some 4) (.t 145), (some (138, false))⟩, []⟩,
     ⟨⟨(some 147), .call (.f 29) [(.t 140), (.t 146)], (some (138, false))⟩, []⟩,
     ⟨⟨(some 148), .not (.t 147), (some (138, false))⟩, []⟩,
     ⟨⟨(some 149), .pick (.t 138) (.c (.bool true)) (.t 148), none⟩, []⟩,
     ⟨⟨(some 150), .mv (.t 149), none⟩, []⟩,
     ⟨⟨(some 151), .faddr 5 (.t 6), (some (150, false))⟩, []⟩,
     ⟨⟨(some 152), .load none (.t 151), (some (150, false))⟩, []⟩,
     ⟨⟨(some 153), .faddr 8 (.t 3), (some (150, false))⟩, []⟩,
     ⟨⟨(some 154), .load none (.t 153), (some (150, false))⟩, []⟩,
     ⟨⟨(some 155), .mv (.t 5), (some (150, false))⟩, []⟩,
     ⟨⟨(some 156), .iaddr 6 (.t 154) (.t 155), (some (150, false))⟩, []⟩,
     ⟨⟨(some 157), .faddr 5 (.t 156), (some (150, false))⟩, []⟩,
     ⟨⟨(some 158), .load none (.t 157), (some (150, false))⟩, []⟩,
     ⟨⟨(some 159), .call (.f 37) [(.t 152), (.t 158)], (some (150, false))⟩, []⟩,
     ⟨⟨(some 160), .not (.t 159), (some (150, false))⟩, []⟩,
     ⟨⟨(some 161), .pick (.t 150) (.c (.bool true)) (.t 160), none⟩, []⟩] [2, 3, 122, 123, 124, 161])
   (.cond (.t 161) true
    (.seq (.reg [⟨(some 4), .mv (.c (.bool false)), none⟩] [4])
    .ret)
    .skip))))
 (.reg [⟨(some 162), .bin .add (.t 124) (.c (.int .i64 1)), none⟩,
  ⟨(some 124), .mv (.t 162), none⟩] [2, 3, 122, 123, 124]))))
def l_gSameDecl_1 : ACode := (.seq (.reg [⟨(some 167), .bin .lss (.t 166) (.t 165), none⟩] [2, 3, 164, 165, 166, 167])
 (.seq (.cond (.t 167) true
   .skip
   (.exit 2))
 (.seq (.block 3 (.seq (.reg [⟨(some 168), .mv (.t 166), none⟩,
     ⟨(some 169), .iaddr 8 (.t 164) (.t 166), none⟩,
     ⟨(some 170), .load (some 8) (.t 169), none⟩,
     ⟨(some 8), .alloc [(.int .i64 0), (.int .i64 0), (.str []), (.sl [] .nil), (.int .i64 0), (.int .i64 0), (.str []), (.sl [] .nil)], none⟩,
     ⟨(some 7), .mv (.t 168), none⟩,
     ⟨none, .store 8 (.t 8) (.t 170), none⟩] [2, 3, 7, 8, 164, 165, 166])
   (.seq (.dreg [⟨⟨(some 171), .faddr 0 (.t 8), none⟩, []⟩,
     ⟨⟨(some 172), .load (some 4) (.t 171), none⟩, []⟩,
     ⟨⟨(some 173), .faddr 10 (.t 3), none⟩, []⟩,
     ⟨⟨(some 174), .load none (.t 173), none⟩, []⟩,
     ⟨⟨(some 175), .mv (.t 7), none⟩, []⟩,
     ⟨⟨(some 176), .iaddr 8 (.t 174) (.t 175), none⟩, []⟩,
     ⟨⟨(some 177), .faddr 0 (.t 176), none⟩, []⟩,
     ⟨⟨(some 178), .load (some 4) (.t 177), none⟩, []⟩,
     ⟨⟨(some 179), .call (.f 29) [(.t 172), (.t 178)], none⟩, []⟩,
     ⟨⟨(some 180), .not (.t 179), none⟩, []⟩,
     ⟨⟨(some 181), .mv (.t 180), none⟩, []⟩,
     ⟨⟨(some 182), .faddr 4 (.t 8), (some (181, false))⟩, []⟩,
     ⟨⟨(some 183), .load (some 4) (.t 182), (some (181, false))⟩, []⟩,
     ⟨⟨(some 184), .faddr 10 (.t 3), (some (181, false))⟩, []⟩,
     ⟨⟨(some 185), .load none (.t 184), (some (181, false))⟩, []⟩,
     ⟨⟨(some 186), .mv (.t 7), (some (181, false))⟩, []⟩,
     ⟨⟨(some 187), .iaddr 8 (.t 185) (.t 186), (some (181, false))⟩, []⟩,
     ⟨⟨(some 188), .faddr 4 (.t 187), (some (181, false))⟩, []⟩,
     ⟨⟨(some 189), .load (some 4) (.t 188), (some (181, false))⟩, []⟩,
     ⟨⟨(some 190), .call (.f 29) [(.t 183), (.t 189)], (some (181, false))⟩, []⟩,
     ⟨⟨(some 191), .not (.t 190), (some (181, false))⟩, []⟩,
     ⟨⟨(some 192), .pick (.t 181) (.c (.bool true)) (.t 191), none⟩, []⟩] [2, 3, 164, 165, 166, 192])
   (.cond (.t 192) true
    (.seq (.reg [⟨(some 4), .mv (.c (.bool false)), none⟩] [4])
    .ret)
    .skip))))
 (.reg [⟨(some 193), .bin .add (.t 166) (.c (.int .i64 1)), none⟩,
  ⟨(some 166), .mv (.t 193), none⟩] [2, 3, 164, 165, 166]))))
def l_gSameDecl_2 : ACode := (.seq (.reg [⟨(some 198), .bin .lss (.t 197) (.t 196), none⟩] [2, 3, 195, 196, 197, 198])
 (.seq (.cond (.t 198) true
   .skip
   (.exit 4))
 (.seq (.block 5 (.seq (.reg [⟨(some 199), .mv (.t 197), none⟩,
     ⟨(some 200), .iaddr 5 (.t 195) (.t 197), none⟩,
     ⟨(some 201), .load (some 5) (.t 200), none⟩,
     ⟨(some 10), .alloc [(.str []), (.int .i64 0), (.int .i64 0), (.str []), (.sl [] .nil)], none⟩,
     ⟨(some 9), .mv (.t 199), none⟩,
     ⟨none, .store 5 (.t 10) (.t 201), none⟩] [2, 3, 9, 10, 195, 196, 197])
   (.seq (.dreg [⟨⟨(some 202), .faddr 0 (.t 10), none⟩, []⟩,
     ⟨⟨(some 203), .load none (.t 202), none⟩, []⟩,
     ⟨⟨(some 204), .faddr 11 (.t 3), none⟩, []⟩,
     ⟨⟨(some 205), .load none (.t 204), none⟩, []⟩,
     ⟨⟨(some 206), .mv (.t 9), none⟩, []⟩,
     ⟨⟨(some 207), .iaddr 5 (.t 205) (.t 206), none⟩, []⟩,
     ⟨⟨(some 208), .faddr 0 (.t 207), none⟩, []⟩,
     ⟨⟨(some 209), .load none (.t 208), none⟩, []⟩,
     ⟨⟨(some 210), .bin .neq (.t 203) (.t 209), none⟩, []⟩,
     ⟨⟨(some 211), .mv (.t 210), none⟩, []⟩,
     ⟨⟨(some 212), .faddr 1 (.t 10), (some (211, false))⟩, []⟩,
     ⟨⟨(some 213), .load (some 4) (.t 212), (some (211, false))⟩, []⟩,
     ⟨⟨(some 214), .faddr 11 (.t 3), (some (211, false))⟩, []⟩,
     ⟨⟨(some 215), .load none (.t 214), (some (211, false))⟩, []⟩,
     ⟨⟨(some 216), .mv (.t 9), (some (211, false))⟩, []⟩,
     ⟨⟨(some 217), .iaddr 5 (.t 215) (.t 216), (some (211, false))⟩, []⟩,
     ⟨⟨(some 218), .faddr 1 (.t 217), (some (211, false))⟩, []⟩,
     ⟨⟨(some 219), .load (some 4) (.t 218), (some (211, false))⟩, []⟩,
     ⟨⟨(some 220), .call (.f 29) [(.t 213), (.t 219)], (some (211, false))⟩, []⟩,
     ⟨⟨(some 221), .not (.t 220), (some (211, false))⟩, []⟩,
     ⟨⟨(some 222), .pick (.t 211) (.c (.bool true)) (.t 221), none⟩, []⟩] [2, 3, 195, 196, 197, 222])
   (.cond (.t 222) true
    (.seq (.reg [⟨(some 4), .mv (.c (.bool false)), none⟩] [4])
    .ret)
    .skip))))
 (.reg [⟨(some 223), .bin .add (.t 197) (.c (.int .i64 1)), none⟩,
  ⟨(some 197), .mv (.t 223), none⟩] [2, 3, 195, 196, 197]))))
def l_gSameDecl_3 : ACode := (.seq (.reg [⟨(some 228), .bin .lss (.t 227) (.t 226), none⟩] [3, 225, 226, 227, 228])
 (.seq (.cond (.t 228) true
   .skip
   (.exit 6))
 (.seq (.block 7 (.seq (.reg [⟨(some 229), .mv (.t 227), none⟩,
     ⟨(some 230), .iaddr 2 (.t 225) (.t 227), none⟩,
     ⟨(some 231), .load (some 2) (.t 230), none⟩,
     ⟨(some 12), .alloc [(.sl [] .nil), (.sl [] .nil)], none⟩,
     ⟨(some 11), .mv (.t 229), none⟩,
     ⟨none, .store 2 (.t 12) (.t 231), none⟩] [3, 11, 12, 225, 226, 227])
   (.seq (.dreg [⟨⟨(some 232), .faddr 0 (.t 12), none⟩, []⟩,
     ⟨⟨(some 233), .load none (.t 232), none⟩, []⟩,
     ⟨⟨(some 234), .faddr 13 (.t 3), none⟩, []⟩,
     ⟨⟨(some 235), .load none (.t 234), none⟩, []⟩,
     ⟨⟨(some 236), .mv (.t 11), none⟩, []⟩,
     ⟨⟨(some 237), .iaddr 2 (.t 235) (.t 236), none⟩, []⟩,
     ⟨⟨(some 238), .faddr 0 (.t 237), none⟩, []⟩,
     ⟨⟨(some 239), .load none (.t 238), none⟩, []⟩,
     ⟨⟨(some 240), .call (.f 37) [(.t 233), (.t 239)], none⟩, []⟩,
     ⟨⟨(some 241), .not (.t 240), none⟩, []⟩,
     ⟨⟨(some 242), .mv (.t 241), none⟩, []⟩,
     ⟨⟨(some 243), .faddr 1 (.t 12), (some (242, false))⟩, []⟩,
     ⟨⟨(some 244), .load none (.t 243), (some (242, false))⟩, []⟩,
     ⟨⟨(some 245), .faddr 13 (.t 3), (some (242, false))⟩, []⟩,
     ⟨⟨(some 246), .load none (.t 245), (some (242, false))⟩, []⟩,
     ⟨⟨(some 247), .mv (.t 11), (some (242, false))⟩, []⟩,
     ⟨⟨(some 248), .iaddr 2 (.t 246) (.t 247), (some (242, false))⟩, []⟩,
     ⟨⟨(some 249), .faddr 1 (.t 248), (some (242, false))⟩, []⟩,
     ⟨⟨(some 250), .load none (.t 249), (some (242, false))⟩, []⟩,
     ⟨⟨(some 251), .call (.f 37) [(.t 244), (.t 250)], (some (242, false))⟩, []⟩,
     ⟨⟨(some 252), .not (.t 251), (some (242, false))⟩, []⟩,
     ⟨⟨(some 253), .pick (.t 242) (.c (.bool true)) (.t 252), none⟩, []⟩] [3, 225, 226, 227, 253])
   (.cond (.t 253) true
    (.seq (.reg [⟨(some 4), .mv (.c (.bool false)), none⟩] [4])
    .ret)
    .skip))))
 (.reg [⟨(some 254), .bin .add (.t 227) (.c (.int .i64 1)), none⟩,
  ⟨(some 227), .mv (.t 254), none⟩] [3, 225, 226, 227]))))
def c_gSameDecl : AFn := ⟨(.seq (.reg [⟨(some 2), .box (.t 0), none⟩,
   ⟨(some 3), .box (.t 1), none⟩,
   ⟨(some 4), .mv (.c (.bool false)), none⟩] [2, 3])
 (.seq (.seq (.reg [⟨(some 13), .faddr 0 (.t 2), none⟩,
    ⟨(some 14), .load none (.t 13), none⟩,
    ⟨(some 15), .faddr 0 (.t 3), none⟩,
    ⟨(some 16), .load none (.t 15), none⟩,
    ⟨(some 17), .bin .neq (.t 14) (.t 16), none⟩,
    ⟨(some 18), .mv (.t 17), none⟩,
    ⟨(some 19), .faddr 1 (.t 2), (some (18, false))⟩,
    ⟨(some 20), .load none (.t 19), (some (18, false))⟩,
    ⟨(some 21), .faddr 1 (.t 3), (some (18, false))⟩,
    ⟨(some 22), .load none (.t 21), (some (18, false))⟩,
    ⟨(some 23), .bin .neq (.t 20) (.t 22), (some (18, false))⟩,
    ⟨(some 24), .pick (.t 18) (.c (.bool true)) (.t 23), none⟩,
    ⟨(some 25), .mv (.t 24), none⟩,
    ⟨(some 26), .faddr 2 (.t 2), (some (25, false))⟩,
    ⟨(some 27), .load none (.t 26), (some (25, false))⟩,
    ⟨(some 28), .faddr 2 (.t 3), (some (25, false))⟩,
    ⟨(some 29), .load none (.t 28), (some (25, false))⟩,
    ⟨(some 30), .bin .neq (.t 27) (.t 29), (some (25, false))⟩,
    ⟨(some 31), .pick (.t 25) (.c (.bool true)) (.t 30), none⟩,
    ⟨(some 32), .mv (.t 31), none⟩,
    ⟨(some 33), .faddr 3 (.t 2), (some (32, false))⟩,
    ⟨(some 34), .load none (.t 33), (some (32, false))⟩,
    ⟨(some 35), .faddr 3 (.t 3), (some (32, false))⟩,
    ⟨(some 36), .load none (.t 35), (some (32, false))⟩,
    ⟨(some 37), .bin .neq (.t 34) (.t 36), (some (32, false))⟩,
    ⟨(some 38), .pick (.t 32) (.c (.bool true)) (.t 37), none⟩,
    ⟨(some 39), .mv (.t 38), none⟩,
    ⟨(some 40), .faddr 4 (.t 2), (some (39, false))⟩,
    ⟨(some 41), .load (some 4) (.t 40), (some (39, false))⟩,
    ⟨(some 42), .faddr 4 (.t 3), (some (39, false))⟩,
    ⟨(some 43), .load (some 4) (.t 42), (some (39, false))⟩,
    ⟨(some 44), .call (.f 29) [(.t 41), (.t 43)], (some (39, false))⟩,
    ⟨(some 45), .not (.t 44), (some (39, false))⟩,
    ⟨(some 46), .pick (.t 39) (.c (.bool true)) (.t 45), none⟩,
    ⟨(some 47), .mv (.t 46), none⟩,
    ⟨(some 48), .faddr 9 (.t 2), (some (47, false))⟩,
    ⟨(some 49), .load none (.t 48), (some (47, false))⟩,
    ⟨(some 50), .faddr 9 (.t 3), (some (47, false))⟩,
    ⟨(some 51), .load none (.t 50), (some (47, false))⟩,
    ⟨(some 52), .call (.f 37) [(.t 49), (.t 51)], (some (47, false))⟩,
    ⟨(some 53), .not (.t 52), (some (47, false))⟩,
    ⟨(some 54), .pick (.t 47) (.c (.bool true)) (.t 53), none⟩,
    ⟨(some 55), .mv (.t 54), none⟩,
    ⟨(some 56), .faddr 12 (.t 2), (some (55, false))⟩,
    ⟨(some 57), .load none (.t 56), (some (55, false))⟩,
    ⟨(some 58), .faddr 12 (.t 3), (some (55, false))⟩,
    ⟨(some 59), .load none (.t 58), (some (55, false))⟩,
    ⟨(some 60), .call (.f 83) [(.t 57), (.t 59)], (some (55, false))⟩,
    ⟨(some 61), .not (.t 60), (some (55, false))⟩,
    ⟨(some 62), .pick (.t 55) (.c (.bool true)) (.t 61), none⟩,
    ⟨(some 63), .mv (.t 62), none⟩,
    ⟨(some 64), .faddr 15 (.t 2), (some (63, false))⟩,
    ⟨(some 65), .load none (.t 64), (some (63, false))⟩,
    ⟨(some 66), .faddr 15 (.t 3), (some (63, false))⟩,
    ⟨(some 67), .load none (.t 66), (some (63, false))⟩,
    ⟨(some 68), .call (.f 85) [(.t 65), (.t 67)], (some (63, false))⟩,
    ⟨(some 69), .not (.t 68), (some (63, false))⟩,
    ⟨(some 70), .pick (.t 63) (.c (.bool true)) (.t 69), none⟩,
    ⟨(some 71), .mv (.t 70), none⟩,
    ⟨(some 72), .faddr 16 (.t 2), (some (71, false))⟩,
    ⟨(some 73), .load none (.t 72), (some (71, false))⟩,
    ⟨(some 74), .faddr 16 (.t 3), (some (71, false))⟩,
    ⟨(some 75), .load none (.t 74), (some (71, false))⟩,
    ⟨(some 76), .call (.f 72) [(.t 73), (.t 75)], (some (71, false))⟩,
    ⟨(some 77), .not (.t 76), (some (71, false))⟩,
    ⟨(some 78), .pick (.t 71) (.c (.bool true)) (.t 77), none⟩,
    ⟨(some 79), .mv (.t 78), none⟩,
    ⟨(some 80), .faddr 14 (.t 2), (some (79, false))⟩,
    ⟨(some 81), .load none (.t 80), (some (79, false))⟩,
    ⟨(some 82), .faddr 14 (.t 3), (some (79, false))⟩,
    ⟨(some 83), .load none (.t 82), (some (79, false))⟩,
    ⟨(some 84), .call (.f 230) [(.t 81), (.t 83)], (some (79, false))⟩,
    ⟨(some 85), .not (.t 84), (some (79, false))⟩,
    ⟨(some 86), .pick (.t 79) (.c (.bool true)) (.t 85), none⟩] [2, 3, 86])
  (.cond (.t 86) true
   (.seq (.reg [⟨(some 4), .mv (.c (.bool false)), none⟩] [4])
   .ret)
   .skip))
 (.seq (.seq (.reg [⟨(some 87), .faddr 8 (.t 2), none⟩,
    ⟨(some 88), .load none (.t 87), none⟩,
    ⟨(some 89), .lenL (.t 88), none⟩,
    ⟨(some 90), .faddr 8 (.t 3), none⟩,
    ⟨(some 91), .load none (.t 90), none⟩,
    ⟨(some 92), .lenL (.t 91), none⟩,
    ⟨(some 93), .bin .neq (.t 89) (.t 92), none⟩,
    ⟨(some 94), .mv (.t 93), none⟩,
    ⟨(some 95), .faddr 10 (.t 2), (some (94, false))⟩,
    ⟨(some 96), .load none (.t 95), (some (94, false))⟩,
    ⟨(some 97), .lenL (.t 96), (some (94, false))⟩,
    ⟨(some 98), .faddr 10 (.t 3), (some (94, false))⟩,
    ⟨(some 99), .load none (.t 98), (some (94, false))⟩,
    ⟨(some 100), .lenL (.t 99), (some (94, false))⟩,
    ⟨(some 101), .bin .neq (.t 97) (.t 100), (some (94, false))⟩,
    ⟨(some 102), .pick (.t 94) (.c (.bool true)) (.t 101), none⟩,
    ⟨(some 103), .mv (.t 102), none⟩,
    ⟨(some 104), .faddr 11 (.t 2), (some (103, false))⟩,
    ⟨(some 105), .load none (.t 104), (some (103, false))⟩,
    ⟨(some 106), .lenL (.t 105), (some (103, false))⟩,
    ⟨(some 107), .faddr 11 (.t 3), (some (103, false))⟩,
    ⟨(some 108), .load none (.t 107), (some (103, false))⟩,
    ⟨(some 109), .lenL (.t 108), (some (103, false))⟩,
    ⟨(some 110), .bin .neq (.t 106) (.t 109), (some (103, false))⟩,
    ⟨(some 111), .pick (.t 103) (.c (.bool true)) (.t 110), none⟩,
    ⟨(some 112), .mv (.t 111), none⟩,
    ⟨(some 113), .faddr 13 (.t 2), (some (112, false))⟩,
    ⟨(some 114), .load none (.t 113), (some (112, false))⟩,
    ⟨(some 115), .lenL (.t 114), (some (112, false))⟩,
    ⟨(some 116), .faddr 13 (.t 3), (some (112, false))⟩,
    ⟨(some 117), .load none (.t 116), (some (112, false))⟩,
    ⟨(some 118), .lenL (.t 117), (some (112, false))⟩,
    ⟨(some 119), .bin .neq (.t 115) (.t 118), (some (112, false))⟩,
    ⟨(some 120), .pick (.t 112) (.c (.bool true)) (.t 119), none⟩] [2, 3, 120])
  (.cond (.t 120) true
   (.seq (.reg [⟨(some 4), .mv (.c (.bool false)), none⟩] [4])
   .ret)
   .skip))
 (.seq (.seq (.reg [⟨(some 121), .faddr 8 (.t 2), none⟩,
    ⟨(some 122), .load none (.t 121), none⟩,
    ⟨(some 123), .lenL (.t 122), none⟩,
    ⟨(some 124), .mv (.c (.int .i64 0)), none⟩] [2, 3, 122, 123, 124])
  (.block 0 (.loop l_gSameDecl_0)))
 (.seq (.seq (.reg [⟨(some 163), .faddr 10 (.t 2), none⟩,
    ⟨(some 164), .load none (.t 163), none⟩,
    ⟨(some 165), .lenL (.t 164), none⟩,
    ⟨(some 166), .mv (.c (.int .i64 0)), none⟩] [2, 3, 164, 165, 166])
  (.block 2 (.loop l_gSameDecl_1)))
 (.seq (.seq (.reg [⟨(some 194), .faddr 11 (.t 2), none⟩,
    ⟨(some 195), .load none (.t 194), none⟩,
    ⟨(some 196), .lenL (.t 195), none⟩,
    ⟨(some 197), .mv (.c (.int .i64 0)), none⟩] [2, 3, 195, 196, 197])
  (.block 4 (.loop l_gSameDecl_2)))
 (.seq (.seq (.reg [⟨(some 224), .faddr 13 (.t 2), none⟩,
    ⟨(some 225), .load none (.t 224), none⟩,
    ⟨(some 226), .lenL (.t 225), none⟩,
    ⟨(some 227), .mv (.c (.int .i64 0)), none⟩] [3, 225, 226, 227])
  (.block 6 (.loop l_gSameDecl_3)))
 (.seq (.reg [⟨(some 4), .mv (.c (.bool true)), none⟩] [4])
 .ret)))))))), [.tmp 4], 255⟩
theorem h_gSameDecl : compFn Tryz.prog k_gSameDecl 158 = some c_gSameDecl := by kernel_rfl
/-- damask/syntax.sameAlt$1 -/
abbrev f_ssameAlt_1 : FuncId := 159
def k_ssameAlt_1 : Tab := [(0, [], [2, 3]), (1, [], [4])]
def c_ssameAlt_1 : AFn := ⟨(.seq (.reg [⟨(some 2), .box (.t 0), none⟩,
   ⟨(some 3), .box (.t 1), none⟩,
   ⟨(some 4), .mv (.c (.bool false)), none⟩] [2, 3])
 (.seq (.reg [⟨(some 5), .faddr 0 (.t 2), none⟩,
   ⟨(some 6), .load none (.t 5), none⟩,
   ⟨(some 7), .faddr 0 (.t 3), none⟩,
   ⟨(some 8), .load none (.t 7), none⟩,
   ⟨(some 9), .call (.f 75) [(.t 6), (.t 8), (.f 30)], none⟩,
   ⟨(some 10), .mv (.t 9), none⟩,
   ⟨(some 11), .faddr 1 (.t 2), (some (10, true))⟩,
   ⟨(some 12), .load (some 10) (.t 11), (some (10, true))⟩,
   ⟨(some 13), .faddr 1 (.t 3), (some (10, true))⟩,
   ⟨(some 14), .load (some 10) (.t 13), (some (10, true))⟩,
   ⟨(some 15), .call (.f 30) [(.t 12), (.t 14)], (some (10, true))⟩,
   ⟨(some 16), .pick (.t 10) (.t 15) (.c (.bool false)), none⟩,
   ⟨(some 4), .mv (.t 16), none⟩] [4])
 .ret)), [.tmp 4], 17⟩
theorem h_ssameAlt_1 : compFn Tryz.prog k_ssameAlt_1 159 = some c_ssameAlt_1 := by kernel_rfl
/-- slices.EqualFunc[[]damask/api.Guard,[]damask/api.Guard,damask/api.Guard,damask/api.Guard] -/
abbrev f_eqfGuard : FuncId := 160
def k_eqfGuard : Tab := [(0, [], [0, 1, 2]), (1, [], [0, 1, 2, 14]), (2, [], [6]), (3, [], [1, 2, 15, 16, 17]), (4, [], [1, 2, 15, 16, 17, 18]), (5, [], [1, 2, 7, 8, 15, 16, 17]), (6, [], [1, 2, 8, 9, 15, 16, 17]), (7, [], [1, 2, 15, 16, 17, 30]), (8, [], [6]), (9, [], [1, 2, 15, 16, 17]), (10, [], [6]), (999999, [14, 18, 30], [])]
def l_eqfGuard_0 : ACode := (.seq (.reg [⟨(some 18), .bin .lss (.t 17) (.t 16), none⟩] [1, 2, 15, 16, 17, 18])
 (.seq (.cond (.t 18) true
   .skip
   (.exit 0))
 (.seq (.block 1 (.seq (.reg [⟨(some 19), .mv (.t 17), none⟩,
     ⟨(some 20), .iaddr 11 (.t 15) (.t 17), none⟩,
     ⟨(some 21), .load (some 11) (.t 20), none⟩,
     ⟨(some 8), .alloc [(.sl [] .nil), (.int .i64 0), (.str []), (.int .i64 0), (.sl [] .nil), (.sl [] .nil), (.sl [] .nil), (.sl [] .nil), (.sl [] .nil), (.sl [] .nil), (.sl [] .nil)], none⟩,
     ⟨(some 7), .mv (.t 19), none⟩,
     ⟨none, .store 11 (.t 8) (.t 21), none⟩] [1, 2, 7, 8, 15, 16, 17])
   (.seq (.reg [⟨(some 22), .mv (.t 1), none⟩,
     ⟨(some 23), .mv (.t 7), none⟩,
     ⟨(some 24), .iaddr 11 (.t 22) (.t 23), none⟩,
     ⟨(some 25), .load (some 11) (.t 24), none⟩,
     ⟨(some 9), .alloc [(.sl [] .nil), (.int .i64 0), (.str []), (.int .i64 0), (.sl [] .nil), (.sl [] .nil), (.sl [] .nil), (.sl [] .nil), (.sl [] .nil), (.sl [] .nil), (.sl [] .nil)], none⟩,
     ⟨none, .store 11 (.t 9) (.t 25), none⟩] [1, 2, 8, 9, 15, 16, 17])
   (.seq (.reg [⟨(some 26), .mv (.t 2), none⟩,
     ⟨(some 27), .load (some 11) (.t 8), none⟩,
     ⟨(some 28), .load (some 11) (.t 9), none⟩,
     ⟨(some 29), .call (.t 26) [(.t 27), (.t 28)], none⟩,
     ⟨(some 30), .not (.t 29), none⟩] [1, 2, 15, 16, 17, 30])
   (.cond (.t 30) true
    (.seq (.reg [⟨(some 6), .mv (.c (.bool false)), none⟩] [6])
    .ret)
    .skip)))))
 (.reg [⟨(some 31), .bin .add (.t 17) (.c (.int .i64 1)), none⟩,
  ⟨(some 17), .mv (.t 31), none⟩] [1, 2, 15, 16, 17]))))
def c_eqfGuard : AFn := ⟨(.seq (.reg [⟨(some 6), .mv (.c (.bool false)), none⟩] [0, 1, 2])
 (.seq (.seq (.reg [⟨(some 10), .mv (.t 0), none⟩,
    ⟨(some 11), .lenL (.t 10), none⟩,
    ⟨(some 12), .mv (.t 1), none⟩,
    ⟨(some 13), .lenL (.t 12), none⟩,
    ⟨(some 14), .bin .neq (.t 11) (.t 13), none⟩] [0, 1, 2, 14])
  (.cond (.t 14) true
   (.seq (.reg [⟨(some 6), .mv (.c (.bool false)), none⟩] [6])
   .ret)
   .skip))
 (.seq (.seq (.reg [⟨(some 15), .mv (.t 0), none⟩,
    ⟨(some 16), .lenL (.t 15), none⟩,
    ⟨(some 17), .mv (.c (.int .i64 0)), none⟩] [1, 2, 15, 16, 17])
  (.block 0 (.loop l_eqfGuard_0)))
 (.seq (.reg [⟨(some 6), .mv (.c (.bool true)), none⟩] [6])
 .ret)))), [.tmp 6], 32⟩
theorem h_eqfGuard : compFn Tryz.prog k_eqfGuard 160 = some c_eqfGuard := by kernel_rfl
/-- damask/damaskref02.SamePat -/
abbrev f_gSamePat : FuncId := 161
def k_gSamePat : Tab := [(0, [], [2, 3]), (1, [], [4])]
def c_gSamePat : AFn := ⟨(.seq (.reg [⟨(some 2), .box (.t 0), none⟩,
   ⟨(some 3), .box (.t 1), none⟩,
   ⟨(some 4), .mv (.c (.bool false)), none⟩] [2, 3])
 (.seq (.reg [⟨(some 5), .faddr 0 (.t 2), none⟩,
   ⟨(some 6), .load none (.t 5), none⟩,
   ⟨(some 7), .faddr 0 (.t 3), none⟩,
   ⟨(some 8), .load none (.t 7), none⟩,
   ⟨(some 9), .bin .eql (.t 6) (.t 8), none⟩,
   ⟨(some 10), .mv (.t 9), none⟩,
   ⟨(some 11), .faddr 1 (.t 2), (some (10, true))⟩,
   ⟨(some 12), .load none (.t 11), (some (10, true))⟩,
   ⟨(some 13), .faddr 1 (.t 3), (some (10, true))⟩,
   ⟨(some 14), .load none (.t 13), (some (10, true))⟩,
   ⟨(some 15), .bin .eql (.t 12) (.t 14), (some (10, true))⟩,
   ⟨(some 16), .pick (.t 10) (.t 15) (.c (.bool false)), none⟩,
   ⟨(some 17), .mv (.t 16), none⟩,
   ⟨(some 18), .faddr 2 (.t 2), (some (17, true))⟩,
   ⟨(some 19), .load none (.t 18), (some (17, true))⟩,
   ⟨(some 20), .faddr 2 (.t 3), (some (17, true))⟩,
   ⟨(some 21), .load none (.t 20), (some (17, true))⟩,
   ⟨(some 22), .bin .eql (.t 19) (.t 21), (some (17, true))⟩,
   ⟨(some 23), .pick (.t 17) (.t 22) (.c (.bool false)), none⟩,
   ⟨(some 24), .mv (.t 23), none⟩,
   ⟨(some 25), .faddr 3 (.t 2), (some (24, true))⟩,
   ⟨(some 26), .load none (.t 25), (some (24, true))⟩,
   ⟨(some 27), .faddr 3 (.t 3), (some (24, true))⟩,
   ⟨(some 28), .load none (.t 27), (some (24, true))⟩,
   ⟨(some 29), .call (.f 84) [(.t 26), (.t 28)], (some (24, true))⟩,
   ⟨(some 30), .pick (.t 24) (.t 29) (.c (.bool false)), none⟩,
   ⟨(some 4), .mv (.t 30), none⟩] [4])
 .ret)), [.tmp 4], 31⟩
theorem h_gSamePat : compFn Tryz.prog k_gSamePat 161 = some c_gSamePat := by kernel_rfl
/-- damask/damaskref02.SameSigs -/
abbrev f_gSameSigs : FuncId := 230
def k_gSameSigs : Tab := [(0, [], [0, 1]), (1, [], [0, 1, 10]), (2, [], [4]), (3, [], [0, 1, 12, 13]), (4, [], [0, 1, 12, 13, 14]), (5, [], [0, 1, 5, 12, 13]), (6, [0, 1, 2, 3, 4, 5, 6, 7, 8, 9, 10, 11, 12, 13, 14, 15, 16, 17, 18, 19, 20, 21, 22, 23, 24], [0, 1, 12, 13, 40]), (7, [], [4]), (8, [], [0, 1, 12, 13]), (9, [], [4]), (999999, [10, 14, 40], [])]
def l_gSameSigs_0 : ACode := (.seq (.reg [⟨(some 14), .bin .lss (.t 13) (.t 12), none⟩] [0, 1, 12, 13, 14])
 (.seq (.cond (.t 14) true
   .skip
   (.exit 0))
 (.seq (.block 1 (.seq (.reg [⟨(some 15), .mv (.t 13), none⟩,
     ⟨(some 5), .mv (.t 15), none⟩] [0, 1, 5, 12, 13])
   (.seq (.dreg [⟨⟨(some 16), .mv (.t 0), none⟩, []⟩,
     ⟨⟨(some 17), .mv (.t 5), none⟩, []⟩,
     ⟨⟨(some 18), .iaddr 5 (.t 16) (.t 17), none⟩, []⟩,
     ⟨⟨(some 19), .faddr 0 (.t 18), none⟩, []⟩,
     ⟨⟨(some 20), .load none (.t 19), none⟩, []⟩,
     ⟨⟨(some 21), .mv (.t 1), none⟩, []⟩,
     ⟨⟨(some 22), .mv (.t 5), none⟩, []⟩,
     ⟨⟨(some 23), .iaddr 5 (.t 21) (.t 22), none⟩, []⟩,
     ⟨⟨(some 24), .faddr 0 (.t 23), none⟩, []⟩,
     ⟨⟨(some 25), .load none (.t 24), none⟩, []⟩,
     ⟨⟨(some 26), .bin .neq (.t 20) (.t 25), none⟩, []⟩,
     ⟨⟨(some 27), .mv (.t 26), none⟩, []⟩,
     ⟨⟨(some 28), .mv (.t 0), (some (27, false))⟩, []⟩,
     ⟨⟨(some 29), .mv (.t 5), (some (27, false))⟩, []⟩,
     ⟨⟨(some 30), .iaddr 5 (.t 28) (.t 29), (some (27, false))⟩, []⟩,
     ⟨⟨(some 31), .faddr 1 (.t 30), (some (27, false))⟩, []⟩,
     ⟨⟨(some 32), .load (some 4) (.t 31), (some (27, false))⟩, []⟩,
     ⟨⟨(some 33), .mv (.t 1), (some (27, false))⟩, []⟩,
     ⟨⟨(some 34), .mv (.t 5), (some (27, false))⟩, []⟩,
     ⟨⟨(some 35), .iaddr 5 (.t 33) (.t 34), (some (27, false))⟩, []⟩,
     ⟨⟨(some 36), .faddr 1 (.t 35), (some (27, false))⟩, []⟩,
     ⟨⟨(some 37), .load (some 4) (.t 36), (some (27, false))⟩, []⟩,
     ⟨⟨(some 38), .call (.f 29) [(.t 32), (.t 37)], (some (27, false))⟩, []⟩,
     ⟨⟨(some 39), .not (.t 38), (some (27, false))⟩, []⟩,
     ⟨⟨(some 40), .pick (.t 27) (.c (.bool true)) (.t 39), none⟩, []⟩] [0, 1, 12, 13, 40])
   (.cond (.t 40) true
    (.seq (.reg [⟨(some 4), .mv (.c (.bool false)), none⟩] [4])
    .ret)
    .skip))))
 (.reg [⟨(some 41), .bin .add (.t 13) (.c (.int .i64 1)), none⟩,
  ⟨(some 13), .mv (.t 41), none⟩] [0, 1, 12, 13]))))
def c_gSameSigs : AFn := ⟨(.seq (.reg [⟨(some 4), .mv (.c (.bool false)), none⟩] [0, 1])
 (.seq (.seq (.reg [⟨(some 6), .mv (.t 0), none⟩,
    ⟨(some 7), .lenL (.t 6), none⟩,
    ⟨(some 8), .mv (.t 1), none⟩,
    ⟨(some 9), .lenL (.t 8), none⟩,
    ⟨(some 10), .bin .neq (.t 7) (.t 9), none⟩] [0, 1, 10])
  (.cond (.t 10) true
   (.seq (.reg [⟨(some 4), .mv (.c (.bool false)), none⟩] [4])
   .ret)
   .skip))
 (.seq (.seq (.reg [⟨(some 11), .mv (.t 0), none⟩,
    ⟨(some 12), .lenL (.t 11), none⟩,
    ⟨(some 13), .mv (.c (.int .i64 0)), none⟩] [0, 1, 12, 13])
  (.block 0 (.loop l_gSameSigs_0)))
 (.seq (.reg [⟨(some 4), .mv (.c (.bool true)), none⟩] [4])
 .ret)))), [.tmp 4], 42⟩
theorem h_gSameSigs : compFn Tryz.prog k_gSameSigs 230 = some c_gSameSigs := by kernel_rfl

end Go.Proofs.YtmpoklkgdcofbaaGreatDoor

