/- MADE BY PROGRAM (wip/eng/Gen1.lean, wip/tools/gen.py): functions, compiled for the engine. -/
import Derived.Test.YtmpoklkgdcofbaaGreatDoorG02E17E19
import Derived.Test.YtmpoklkgdcofbaaGreatDoorChecked
import Derived.KernelRfl
set_option maxRecDepth 100000
namespace Go.Proofs.YtmpoklkgdcofbaaGreatDoor
open Go.Eng

/-- damask/lexis.Tokens -/
abbrev f_Tokens : FuncId := 12
def k_Tokens : Tab := [(0, [], [0]), (1, [], [0, 11]), (2, [], [2, 3, 4]), (3, [], [0, 5]), (4, [], [0, 5, 6]), (5, [], [0, 5, 6]), (6, [], [0, 5, 6, 23]), (7, [], [2, 3, 4]), (8, [], [0, 5, 6, 7, 8]), (9, [], [0, 5, 6, 7, 36]), (10, [0, 1, 2, 3, 4, 5, 6], [2, 3, 4]), (11, [], [0, 5, 6, 7]), (12, [0, 1, 2, 3, 4, 5, 6, 7, 8, 9, 10], [0, 5, 6]), (999999, [11, 23, 36], [])]
def l_Tokens_0 : ACode := (.block 1 (.seq (.reg [⟨(some 15), .mv (.t 5), none⟩,
    ⟨(some 16), .call (.f 49) [(.t 15)], none⟩] [0, 5, 6])
  (.seq (.seq (.reg [⟨(some 17), .mv (.t 5), none⟩,
     ⟨(some 18), .nilck (.t 17), none⟩,
     ⟨(some 19), .faddr 1 (.t 18), none⟩,
     ⟨(some 20), .load none (.t 19), none⟩,
     ⟨(some 21), .mv (.t 0), none⟩,
     ⟨(some 22), .lenS (.t 21), none⟩,
     ⟨(some 23), .bin .eql (.t 20) (.t 22), none⟩] [0, 5, 6, 23])
   (.cond (.t 23) true
    (.seq (.reg [⟨(some 24), .mv (.t 6), none⟩,
      ⟨(some 25), .mv (.t 0), none⟩,
      ⟨(some 26), .lenS (.t 25), none⟩,
      ⟨(some 27), .build [(.int .i64 0), (.str []), (.int .i64 0)] [(0, 1, (.c (.int .i64 7))), (2, 1, (.t 26))], none⟩,
      ⟨(some 28), .bsl 3 [(.t 27)], none⟩,
      ⟨(some 29), .app 3 32 94 (.t 24) (.t 28), none⟩,
      ⟨(some 2), .mv (.t 29), none⟩,
      ⟨(some 3), .mv (.c (.int .i64 0)), none⟩,
      ⟨(some 4), .mv (.c (.int .i64 0)), none⟩] [2, 3, 4])
    .ret)
    .skip))
  (.seq (.reg [⟨(some 31), .mv (.t 5), none⟩,
    ⟨(some 32), .call (.f 50) [(.t 31)], none⟩,
    ⟨(some 30), .mv (.t 32), none⟩,
    ⟨(some 33), .ext (.t 30) 0, none⟩,
    ⟨(some 34), .ext (.t 30) 1, none⟩,
    ⟨(some 7), .alloc [(.int .i64 0), (.str []), (.int .i64 0)], none⟩,
    ⟨none, .store 3 (.t 7) (.t 33), none⟩,
    ⟨(some 8), .mv (.t 34), none⟩] [0, 5, 6, 7, 8])
  (.seq (.seq (.reg [⟨(some 35), .mv (.t 8), none⟩,
     ⟨(some 36), .not (.t 35), none⟩] [0, 5, 6, 7, 36])
   (.cond (.t 36) true
    (.seq (.dreg [⟨⟨(some 37), .mv (.t 5), none⟩, []⟩,
      ⟨⟨(some 38), .nilck (.t 37), none⟩, []⟩,
      ⟨⟨(some 39), .faddr 1 (.t 38), none⟩, []⟩,
      ⟨⟨(some 40), .load none (.t 39), none⟩, []⟩,
      ⟨⟨(some 2), .mv (.c (.sl [] .full)), none⟩, []⟩,
      ⟨⟨(some 3), .mv (.t 40), none⟩, []⟩,
      ⟨⟨(some 4), .mv (.c (.int .i64 4)), none⟩, []⟩] [2, 3, 4])
    .ret)
    .skip))
  (.seq (.reg [⟨(some 41), .mv (.t 6), none⟩,
    ⟨(some 42), .load (some 3) (.t 7), none⟩,
    ⟨(some 43), .bsl 3 [(.t 42)], none⟩,
    ⟨(some 44), .app 3 32 94 (.t 41) (.t 43), none⟩,
    ⟨(some 6), .mv (.t 44), none⟩] [0, 5, 6, 7])
  (.dreg [⟨⟨(some 45), .mv (.t 5), none⟩, []⟩,
   ⟨⟨(some 46), .nilck (.t 45), none⟩, []⟩,
   ⟨⟨(some 47), .faddr 1 (.t 46), none⟩, []⟩,
   ⟨⟨(some 48), .load none (.t 47), none⟩, []⟩,
   ⟨⟨(some 49), .faddr 1 (.t 7), none⟩, []⟩,
   ⟨⟨(some 50), .load none (.t 49), none⟩, []⟩,
   ⟨⟨(some 51), .lenS (.t 50), none⟩, []⟩,
   ⟨⟨(some 52), .bin .add (.t 48) (.t 51), none⟩, []⟩,
   ⟨⟨(some 53), .nilck (.t 45), none⟩, []⟩,
   ⟨⟨(some 54), .faddr 1 (.t 53), none⟩, []⟩,
   ⟨⟨none, .store 1 (.t 54) (.t 52), none⟩, []⟩] [0, 5, 6])))))))
def c_Tokens : AFn := ⟨(.seq (.reg [⟨(some 2), .mv (.c (.sl [] .full)), none⟩,
   ⟨(some 3), .mv (.c (.int .i64 0)), none⟩,
   ⟨(some 4), .mv (.c (.int .i64 0)), none⟩] [0])
 (.seq (.seq (.reg [⟨(some 9), .mv (.t 0), none⟩,
    ⟨(some 10), .lenS (.t 9), none⟩,
    ⟨(some 11), .bin .gtr (.t 10) (.c (.int .i64 12000)), none⟩] [0, 11])
  (.cond (.t 11) true
   (.seq (.reg [⟨(some 2), .mv (.c (.sl [] .full)), none⟩,
     ⟨(some 3), .mv (.c (.int .i64 0)), none⟩,
     ⟨(some 4), .mv (.c (.int .i64 5)), none⟩] [2, 3, 4])
   .ret)
   .skip))
 (.seq (.reg [⟨(some 12), .mv (.t 0), none⟩,
   ⟨(some 13), .build [(.str []), (.int .i64 0)] [(0, 1, (.t 12))], none⟩,
   ⟨(some 14), .box (.t 13), none⟩,
   ⟨(some 5), .mv (.t 14), none⟩] [0, 5])
 (.seq (.reg [⟨(some 6), .mv (.c (.sl [] .full)), none⟩] [0, 5, 6])
 (.block 0 (.loop l_Tokens_0)))))), [.tmp 2, .tmp 3, .tmp 4], 55⟩
theorem h_Tokens : compFn Tryz.prog k_Tokens 12 = some c_Tokens := by kernel_rfl
/-- damask/damaskref01.SameStrings -/
abbrev f_rSameStrings : FuncId := 37
def k_rSameStrings : Tab := [(0, [], [0, 1]), (1, [], [0, 1, 10]), (2, [], [4]), (3, [], [0, 1, 12, 13]), (4, [], [0, 1, 12, 13, 14]), (5, [], [0, 1, 5, 12, 13]), (6, [0, 1, 2, 3, 4, 5, 6, 7, 8], [0, 1, 12, 13, 24]), (7, [], [4]), (8, [], [0, 1, 12, 13]), (9, [], [4]), (999999, [10, 14, 24], [])]
def l_rSameStrings_0 : ACode := (.seq (.reg [⟨(some 14), .bin .lss (.t 13) (.t 12), none⟩] [0, 1, 12, 13, 14])
 (.seq (.cond (.t 14) true
   .skip
   (.exit 0))
 (.seq (.block 1 (.seq (.reg [⟨(some 15), .mv (.t 13), none⟩,
     ⟨(some 5), .mv (.t 15), none⟩] [0, 1, 5, 12, 13])
   (.seq (.dreg [⟨⟨(some 16), .mv (.t 0), none⟩, []⟩,
     ⟨⟨(some 17), .mv (.t 5), none⟩, []⟩,
     ⟨⟨(some 18), .iaddr 1 (.t 16) (.t 17), none⟩, []⟩,
     ⟨⟨(some 19), .load none (.t 18), none⟩, []⟩,
     ⟨⟨(some 20), .mv (.t 1), none⟩, []⟩,
     ⟨⟨(some 21), .mv (.t 5), none⟩, []⟩,
     ⟨⟨(some 22), .iaddr 1 (.t 20) (.t 21), none⟩, []⟩,
     ⟨⟨(some 23), .load none (.t 22), none⟩, []⟩,
     ⟨⟨(some 24), .bin .neq (.t 19) (.t 23), none⟩, []⟩] [0, 1, 12, 13, 24])
   (.cond (.t 24) true
    (.seq (.reg [⟨(some 4), .mv (.c (.bool false)), none⟩] [4])
    .ret)
    .skip))))
 (.reg [⟨(some 25), .bin .add (.t 13) (.c (.int .i64 1)), none⟩,
  ⟨(some 13), .mv (.t 25), none⟩] [0, 1, 12, 13]))))
def c_rSameStrings : AFn := ⟨(.seq (.reg [⟨(some 4), .mv (.c (.bool false)), none⟩] [0, 1])
 (.seq (.seq (.reg [⟨(some 6), .mv (.t 0), none⟩,
    ⟨(some 7), .lenL (.t 6), none⟩,
    ⟨(some 8), .mv (.t 1), none⟩,
    ⟨(some 9), .lenL (.t 8), none⟩,
    ⟨(some 10), .bin .neq (.t 7) (.t 9), none⟩] [0, 1, 10])
  (.cond (.t 10) true
   (.seq (.reg [⟨(some 4), .mv (.c (.bool false)), none⟩] [4])
   .ret)
   .skip))
 (.seq (.seq (.reg [⟨(some 11), .mv (.t 0), none⟩,
    ⟨(some 12), .lenL (.t 11), none⟩,
    ⟨(some 13), .mv (.c (.int .i64 0)), none⟩] [0, 1, 12, 13])
  (.block 0 (.loop l_rSameStrings_0)))
 (.seq (.reg [⟨(some 4), .mv (.c (.bool true)), none⟩] [4])
 .ret)))), [.tmp 4], 26⟩
theorem h_rSameStrings : compFn Tryz.prog k_rSameStrings 37 = some c_rSameStrings := by kernel_rfl
/-- damask/lexis.IsCapital -/
abbrev f_IsCapital : FuncId := 46
def k_IsCapital : Tab := [(0, [], [0]), (1, [], [2])]
def c_IsCapital : AFn := ⟨(.seq (.reg [⟨(some 2), .mv (.c (.bool false)), none⟩] [0])
 (.seq (.reg [⟨(some 3), .mv (.t 0), none⟩,
   ⟨(some 4), .call (.f 102) [(.t 3)], none⟩,
   ⟨(some 5), .mv (.t 4), none⟩,
   ⟨(some 6), .mv (.t 0), (some (5, true))⟩,
   ⟨(some 7), .ixS (.t 6) (.c (.int .i64 0)), (some (5, true))⟩,
   ⟨(some 8), .call (.f 103) [(.t 7)], (some (5, true))⟩,
   ⟨(some 9), .pick (.t 5) (.t 8) (.c (.bool false)), none⟩,
   ⟨(some 2), .mv (.t 9), none⟩] [2])
 .ret)), [.tmp 2], 10⟩
theorem h_IsCapital : compFn Tryz.prog k_IsCapital 46 = some c_IsCapital := by kernel_rfl
/-- (*damask/lexis.source).blanks -/
abbrev f_blanks : FuncId := 49
def k_blanks : Tab := [(0, [0, 1, 2, 3, 4, 5, 6, 7, 8, 9], [0, 13]), (1, [0, 1, 2, 3, 4, 5, 6, 7, 8, 9], [0, 2]), (2, [], [0, 23]), (3, [], [0]), (4, [0, 1, 2, 3, 4, 5, 6, 7, 8, 9, 10], [0, 45]), (5, [0, 1, 2, 3, 4, 5, 6, 7, 8, 9, 10], [0, 3]), (6, [], [0, 3, 67]), (7, [], []), (8, [], [0]), (999999, [13, 67, 45, 23], [])]
def l_blanks_0 : ACode := (.seq (.seq (.dreg [⟨⟨(some 4), .mv (.t 0), none⟩, []⟩,
    ⟨⟨(some 5), .nilck (.t 4), none⟩, []⟩,
    ⟨⟨(some 6), .faddr 1 (.t 5), none⟩, []⟩,
    ⟨⟨(some 7), .load none (.t 6), none⟩, []⟩,
    ⟨⟨(some 8), .mv (.t 0), none⟩, []⟩,
    ⟨⟨(some 9), .nilck (.t 8), none⟩, []⟩,
    ⟨⟨(some 10), .faddr 0 (.t 9), none⟩, []⟩,
    ⟨⟨(some 11), .load none (.t 10), none⟩, []⟩,
    ⟨⟨(some 12), .lenS (.t 11), none⟩, []⟩,
    ⟨⟨(some 13), .bin .lss (.t 7) (.t 12), none⟩, []⟩] [0, 13])
  (.cond (.t 13) true
   .skip
   (.exit 0)))
 (.block 1 (.seq (.dreg [⟨⟨(some 14), .mv (.t 0), none⟩, []⟩,
    ⟨⟨(some 15), .nilck (.t 14), none⟩, []⟩,
    ⟨⟨(some 16), .faddr 0 (.t 15), none⟩, []⟩,
    ⟨⟨(some 17), .load none (.t 16), none⟩, []⟩,
    ⟨⟨(some 18), .mv (.t 0), none⟩, []⟩,
    ⟨⟨(some 19), .nilck (.t 18), none⟩, []⟩,
    ⟨⟨(some 20), .faddr 1 (.t 19), none⟩, []⟩,
    ⟨⟨(some 21), .load none (.t 20), none⟩, []⟩,
    ⟨⟨(some 22), .ixS (.t 17) (.t 21), none⟩, []⟩,
    ⟨⟨(some 2), .mv (.t 22), none⟩, []⟩] [0, 2])
  (.block 2 (.seq (.reg [⟨(some 24), .mv (.t 2), none⟩,
     ⟨(some 25), .bin .eql (.t 24) (.c (.int .u8 32)), none⟩,
     ⟨(some 26), .mv (.t 25), none⟩,
     ⟨(some 27), .mv (.t 2), (some (26, false))⟩,
     ⟨(some 28), .bin .eql (.t 27) (.c (.int .u8 9)), (some (26, false))⟩,
     ⟨(some 29), .pick (.t 26) (.c (.bool true)) (.t 28), none⟩,
     ⟨(some 30), .mv (.t 29), none⟩,
     ⟨(some 31), .mv (.t 2), (some (30, false))⟩,
     ⟨(some 32), .bin .eql (.t 31) (.c (.int .u8 10)), (some (30, false))⟩,
     ⟨(some 33), .pick (.t 30) (.c (.bool true)) (.t 32), none⟩,
     ⟨(some 34), .mv (.t 33), none⟩,
     ⟨(some 35), .mv (.t 2), (some (34, false))⟩,
     ⟨(some 36), .bin .eql (.t 35) (.c (.int .u8 13)), (some (34, false))⟩,
     ⟨(some 37), .pick (.t 34) (.c (.bool true)) (.t 36), none⟩,
     ⟨(some 23), .mv (.t 37), none⟩] [0, 23])
   (.cond (.t 23) true
    (.reg [⟨(some 38), .mv (.t 0), none⟩,
     ⟨(some 39), .nilck (.t 38), none⟩,
     ⟨(some 40), .faddr 1 (.t 39), none⟩,
     ⟨(some 41), .load none (.t 40), none⟩,
     ⟨(some 42), .bin .add (.t 41) (.c (.int .i64 1)), none⟩,
     ⟨(some 43), .nilck (.t 38), none⟩,
     ⟨(some 44), .faddr 1 (.t 43), none⟩,
     ⟨none, .store 1 (.t 44) (.t 42), none⟩] [0])
    (.seq (.dreg [⟨⟨(some 46), .mv (.t 0), none⟩, []⟩,
      ⟨⟨(some 47), .nilck (.t 46), none⟩, []⟩,
      ⟨⟨(some 48), .faddr 0 (.t 47), none⟩, []⟩,
      ⟨⟨(some 49), .load none (.t 48), none⟩, []⟩,
      ⟨⟨(some 50), .mv (.t 0), none⟩, []⟩,
      ⟨⟨(some 51), .nilck (.t 50), none⟩, []⟩,
      ⟨⟨(some 52), .faddr 1 (.t 51), none⟩, []⟩,
      ⟨⟨(some 53), .load none (.t 52), none⟩, []⟩,
      ⟨⟨(some 54), .slS (.t 49) (some (.t 53)) none, none⟩, []⟩,
      ⟨⟨(some 55), .call (.f 107) [(.t 54), (.c (.str [45, 45]))], none⟩, []⟩,
      ⟨⟨(some 45), .mv (.t 55), none⟩, []⟩] [0, 45])
    (.cond (.t 45) true
     (.seq (.dreg [⟨⟨(some 56), .mv (.t 0), none⟩, []⟩,
       ⟨⟨(some 57), .nilck (.t 56), none⟩, []⟩,
       ⟨⟨(some 58), .faddr 0 (.t 57), none⟩, []⟩,
       ⟨⟨(some 59), .load none (.t 58), none⟩, []⟩,
       ⟨⟨(some 60), .mv (.t 0), none⟩, []⟩,
       ⟨⟨(some 61), .nilck (.t 60), none⟩, []⟩,
       ⟨⟨(some 62), .faddr 1 (.t 61), none⟩, []⟩,
       ⟨⟨(some 63), .load none (.t 62), none⟩, []⟩,
       ⟨⟨(some 64), .slS (.t 59) (some (.t 63)) none, none⟩, []⟩,
       ⟨⟨(some 65), .call (.f 108) [(.t 64), (.c (.int .u8 10))], none⟩, []⟩,
       ⟨⟨(some 3), .mv (.t 65), none⟩, []⟩] [0, 3])
     (.seq (.seq (.reg [⟨(some 66), .mv (.t 3), none⟩,
        ⟨(some 67), .bin .lss (.t 66) (.c (.int .i64 0)), none⟩] [0, 3, 67])
      (.cond (.t 67) true
       (.seq (.reg [⟨(some 68), .mv (.t 0), none⟩,
         ⟨(some 69), .mv (.t 0), none⟩,
         ⟨(some 70), .nilck (.t 69), none⟩,
         ⟨(some 71), .faddr 0 (.t 70), none⟩,
         ⟨(some 72), .load none (.t 71), none⟩,
         ⟨(some 73), .lenS (.t 72), none⟩,
         ⟨(some 74), .nilck (.t 68), none⟩,
         ⟨(some 75), .faddr 1 (.t 74), none⟩,
         ⟨none, .store 1 (.t 75) (.t 73), none⟩] [])
       (.exit 0))
       .skip))
     (.reg [⟨(some 76), .mv (.t 0), none⟩,
      ⟨(some 77), .nilck (.t 76), none⟩,
      ⟨(some 78), .faddr 1 (.t 77), none⟩,
      ⟨(some 79), .load none (.t 78), none⟩,
      ⟨(some 80), .mv (.t 3), none⟩,
      ⟨(some 81), .bin .add (.t 79) (.t 80), none⟩,
      ⟨(some 82), .nilck (.t 76), none⟩,
      ⟨(some 83), .faddr 1 (.t 82), none⟩,
      ⟨none, .store 1 (.t 83) (.t 81), none⟩] [0])))
     (.exit 0)))))))))
def c_blanks : AFn := ⟨(.scope (.seq (.label 0)
  (.block 0 (.loop l_blanks_0)))), [], 84⟩
theorem h_blanks : compFn Tryz.prog k_blanks 49 = some c_blanks := by kernel_rfl
/-- (*damask/lexis.source).token -/
abbrev f_token : FuncId := 50
def k_token : Tab := [(0, [], [1, 2]), (1, [0, 1, 2, 3, 4, 5, 6, 7, 8, 9], [1, 2, 4]), (2, [], [1, 2, 4, 5]), (3, [], [1, 2, 4, 5, 6]), (4, [0, 1, 2, 3, 4, 5, 6, 7, 8, 9, 10], [1, 2, 4, 5, 6, 29]), (5, [0, 1, 2, 3, 4, 5, 6, 7, 8, 9, 10], [1, 2, 4, 5, 6]), (6, [], [1, 2, 4, 5, 6, 40]), (7, [0, 1, 2, 3, 4, 5, 6, 7, 8, 9, 10, 11, 12, 13, 14, 15, 16, 17, 18, 19], [2, 3]), (8, [], [1, 2, 4, 5, 6, 62]), (9, [], [2, 3]), (10, [], [1, 2, 4, 5, 74]), (11, [], [2, 3]), (12, [], [1, 2, 4, 5, 85]), (13, [0, 1, 2, 3, 4, 5, 6], [2, 4, 5, 7]), (14, [], [2, 4, 5, 7, 94]), (15, [], [2, 3]), (16, [], [2, 4, 5, 7, 102]), (17, [], [2, 3]), (18, [], [2, 4, 5, 7, 110]), (19, [], [2, 3]), (20, [], [2, 5, 7, 118]), (21, [], [2, 3]), (22, [], [2, 3]), (23, [], [1, 2, 5, 131]), (24, [0, 1, 2, 3, 4, 5, 6], [2, 5, 8]), (25, [], [2, 5, 8, 140]), (26, [], [2, 3]), (27, [], [2, 5, 8, 148]), (28, [], [2, 3]), (29, [], [2, 3]), (999999, [29, 118, 110, 102, 94, 148, 140, 131, 85, 74, 62, 40], [])]
def c_token : AFn := ⟨(.seq (.reg [⟨(some 1), .box (.t 0), none⟩,
   ⟨(some 2), .alloc [(.int .i64 0), (.str []), (.int .i64 0)], none⟩,
   ⟨(some 3), .mv (.c (.bool false)), none⟩] [1, 2])
 (.seq (.dreg [⟨⟨(some 9), .load none (.t 1), none⟩, []⟩,
   ⟨⟨(some 10), .nilck (.t 9), none⟩, []⟩,
   ⟨⟨(some 11), .faddr 0 (.t 10), none⟩, []⟩,
   ⟨⟨(some 12), .load none (.t 11), none⟩, []⟩,
   ⟨⟨(some 13), .load none (.t 1), none⟩, []⟩,
   ⟨⟨(some 14), .nilck (.t 13), none⟩, []⟩,
   ⟨⟨(some 15), .faddr 1 (.t 14), none⟩, []⟩,
   ⟨⟨(some 16), .load none (.t 15), none⟩, []⟩,
   ⟨⟨(some 17), .ixS (.t 12) (.t 16), none⟩, []⟩,
   ⟨⟨(some 4), .mv (.t 17), none⟩, []⟩] [1, 2, 4])
 (.seq (.reg [⟨(some 18), .mkfn (.func 109) [] [(.t 1)], none⟩,
   ⟨(some 5), .mv (.t 18), none⟩] [1, 2, 4, 5])
 (.seq (.reg [⟨(some 6), .mv (.c (.int .u8 0)), none⟩] [1, 2, 4, 5, 6])
 (.seq (.seq (.dreg [⟨⟨(some 19), .load none (.t 1), none⟩, []⟩,
    ⟨⟨(some 20), .nilck (.t 19), none⟩, []⟩,
    ⟨⟨(some 21), .faddr 1 (.t 20), none⟩, []⟩,
    ⟨⟨(some 22), .load none (.t 21), none⟩, []⟩,
    ⟨⟨(some 23), .bin .add (.t 22) (.c (.int .i64 1)), none⟩, []⟩,
    ⟨⟨(some 24), .load none (.t 1), none⟩, []⟩,
    ⟨⟨(some 25), .nilck (.t 24), none⟩, []⟩,
    ⟨⟨(some 26), .faddr 0 (.t 25), none⟩, []⟩,
    ⟨⟨(some 27), .load none (.t 26), none⟩, []⟩,
    ⟨⟨(some 28), .lenS (.t 27), none⟩, []⟩,
    ⟨⟨(some 29), .bin .lss (.t 23) (.t 28), none⟩, []⟩] [1, 2, 4, 5, 6, 29])
  (.cond (.t 29) true
   (.dreg [⟨⟨(some 30), .load none (.t 1), none⟩, []⟩,
    ⟨⟨(some 31), .nilck (.t 30), none⟩, []⟩,
    ⟨⟨(some 32), .faddr 0 (.t 31), none⟩, []⟩,
    ⟨⟨(some 33), .load none (.t 32), none⟩, []⟩,
    ⟨⟨(some 34), .load none (.t 1), none⟩, []⟩,
    ⟨⟨(some 35), .nilck (.t 34), none⟩, []⟩,
    ⟨⟨(some 36), .faddr 1 (.t 35), none⟩, []⟩,
    ⟨⟨(some 37), .load none (.t 36), none⟩, []⟩,
    ⟨⟨(some 38), .bin .add (.t 37) (.c (.int .i64 1)), none⟩, []⟩,
    ⟨⟨(some 39), .ixS (.t 33) (.t 38), none⟩, []⟩,
    ⟨⟨(some 6), .mv (.t 39), none⟩, []⟩] [1, 2, 4, 5, 6])
   .skip))
 (.seq (.block 0 (.seq (.reg [⟨(some 41), .mv (.t 4), none⟩,
     ⟨(some 42), .call (.f 108) [(.c (.str [40, 41, 123, 125, 44, 59])), (.t 41)], none⟩,
     ⟨(some 43), .bin .geq (.t 42) (.c (.int .i64 0)), none⟩,
     ⟨(some 40), .mv (.t 43), none⟩] [1, 2, 4, 5, 6, 40])
   (.cond (.t 40) true
    (.seq (.dreg [⟨⟨(some 44), .mv (.t 5), none⟩, []⟩,
      ⟨⟨(some 45), .load none (.t 1), none⟩, []⟩,
      ⟨⟨(some 46), .nilck (.t 45), none⟩, []⟩,
      ⟨⟨(some 47), .faddr 0 (.t 46), none⟩, []⟩,
      ⟨⟨(some 48), .load none (.t 47), none⟩, []⟩,
      ⟨⟨(some 49), .load none (.t 1), none⟩, []⟩,
      ⟨⟨(some 50), .nilck (.t 49), none⟩, []⟩,
      ⟨⟨(some 51), .faddr 1 (.t 50), none⟩, []⟩,
      ⟨⟨(some 52), .load none (.t 51), none⟩, []⟩,
      ⟨⟨(some 53), .load none (.t 1), none⟩, []⟩,
      ⟨⟨(some 54), .nilck (.t 53), none⟩, []⟩,
      ⟨⟨(some 55), .faddr 1 (.t 54), none⟩, []⟩,
      ⟨⟨(some 56), .load none (.t 55), none⟩, []⟩,
      ⟨⟨(some 57), .bin .add (.t 56) (.c (.int .i64 1)), none⟩, []⟩,
      ⟨⟨(some 58), .slS (.t 48) (some (.t 52)) (some (.t 57)), none⟩, []⟩,
      ⟨⟨(some 59), .call (.t 44) [(.c (.int .i64 5)), (.t 58)], none⟩, []⟩,
      ⟨⟨(some 60), .ext (.t 59) 0, none⟩, []⟩,
      ⟨⟨(some 61), .ext (.t 59) 1, none⟩, []⟩,
      ⟨⟨none, .store 3 (.t 2) (.t 60), none⟩, []⟩,
      ⟨⟨(some 3), .mv (.t 61), none⟩, []⟩] [2, 3])
    .ret)
    (.seq (.reg [⟨(some 63), .mv (.t 4), none⟩,
      ⟨(some 64), .bin .eql (.t 63) (.c (.int .u8 95)), none⟩,
      ⟨(some 65), .mv (.t 64), none⟩,
      ⟨(some 66), .mv (.t 6), (some (65, true))⟩,
      ⟨(some 67), .call (.f 110) [(.t 66)], (some (65, true))⟩,
      ⟨(some 68), .not (.t 67), (some (65, true))⟩,
      ⟨(some 69), .pick (.t 65) (.t 68) (.c (.bool false)), none⟩,
      ⟨(some 62), .mv (.t 69), none⟩] [1, 2, 4, 5, 6, 62])
    (.cond (.t 62) true
     (.seq (.reg [⟨(some 70), .mv (.t 5), none⟩,
       ⟨(some 71), .call (.t 70) [(.c (.int .i64 5)), (.c (.str [95]))], none⟩,
       ⟨(some 72), .ext (.t 71) 0, none⟩,
       ⟨(some 73), .ext (.t 71) 1, none⟩,
       ⟨none, .store 3 (.t 2) (.t 72), none⟩,
       ⟨(some 3), .mv (.t 73), none⟩] [2, 3])
     .ret)
     (.seq (.reg [⟨(some 75), .mv (.t 4), none⟩,
       ⟨(some 76), .bin .eql (.t 75) (.c (.int .u8 39)), none⟩,
       ⟨(some 77), .mv (.t 76), none⟩,
       ⟨(some 78), .mv (.t 6), (some (77, true))⟩,
       ⟨(some 79), .call (.f 103) [(.t 78)], (some (77, true))⟩,
       ⟨(some 80), .pick (.t 77) (.t 79) (.c (.bool false)), none⟩,
       ⟨(some 74), .mv (.t 80), none⟩] [1, 2, 4, 5, 74])
     (.cond (.t 74) true
      (.seq (.reg [⟨(some 81), .mv (.t 5), none⟩,
        ⟨(some 82), .call (.t 81) [(.c (.int .i64 5)), (.c (.str [39]))], none⟩,
        ⟨(some 83), .ext (.t 82) 0, none⟩,
        ⟨(some 84), .ext (.t 82) 1, none⟩,
        ⟨none, .store 3 (.t 2) (.t 83), none⟩,
        ⟨(some 3), .mv (.t 84), none⟩] [2, 3])
      .ret)
      (.seq (.reg [⟨(some 86), .mv (.t 4), none⟩,
        ⟨(some 87), .call (.f 110) [(.t 86)], none⟩,
        ⟨(some 85), .mv (.t 87), none⟩] [1, 2, 4, 5, 85])
      (.cond (.t 85) true
       (.seq (.dreg [⟨⟨(some 88), .load none (.t 1), none⟩, []⟩,
         ⟨⟨(some 89), .load none (.t 1), none⟩, []⟩,
         ⟨⟨(some 90), .nilck (.t 89), none⟩, []⟩,
         ⟨⟨(some 91), .faddr 1 (.t 90), none⟩, []⟩,
         ⟨⟨(some 92), .load none (.t 91), none⟩, []⟩,
         ⟨⟨(some 93), .call (.f 111) [(.t 88), (.t 92), (.f 110)], none⟩, []⟩,
         ⟨⟨(some 7), .mv (.t 93), none⟩, []⟩] [2, 4, 5, 7])
       (.seq (.block 1 (.seq (.reg [⟨(some 95), .mv (.t 7), none⟩,
           ⟨(some 96), .call (.f 112) [(.t 95)], none⟩,
           ⟨(some 94), .mv (.t 96), none⟩] [2, 4, 5, 7, 94])
         (.cond (.t 94) true
          (.seq (.reg [⟨(some 97), .mv (.t 5), none⟩,
            ⟨(some 98), .mv (.t 7), none⟩,
            ⟨(some 99), .call (.t 97) [(.c (.int .i64 6)), (.t 98)], none⟩,
            ⟨(some 100), .ext (.t 99) 0, none⟩,
            ⟨(some 101), .ext (.t 99) 1, none⟩,
            ⟨none, .store 3 (.t 2) (.t 100), none⟩,
            ⟨(some 3), .mv (.t 101), none⟩] [2, 3])
          .ret)
          (.seq (.reg [⟨(some 103), .mv (.t 7), none⟩,
            ⟨(some 104), .call (.f 113) [(.t 103)], none⟩,
            ⟨(some 102), .mv (.t 104), none⟩] [2, 4, 5, 7, 102])
          (.cond (.t 102) true
           (.seq (.reg [⟨(some 105), .mv (.t 5), none⟩,
             ⟨(some 106), .mv (.t 7), none⟩,
             ⟨(some 107), .call (.t 105) [(.c (.int .i64 1)), (.t 106)], none⟩,
             ⟨(some 108), .ext (.t 107) 0, none⟩,
             ⟨(some 109), .ext (.t 107) 1, none⟩,
             ⟨none, .store 3 (.t 2) (.t 108), none⟩,
             ⟨(some 3), .mv (.t 109), none⟩] [2, 3])
           .ret)
           (.seq (.reg [⟨(some 111), .mv (.t 7), none⟩,
             ⟨(some 112), .call (.f 46) [(.t 111)], none⟩,
             ⟨(some 110), .mv (.t 112), none⟩] [2, 4, 5, 7, 110])
           (.cond (.t 110) true
            (.seq (.reg [⟨(some 113), .mv (.t 5), none⟩,
              ⟨(some 114), .mv (.t 7), none⟩,
              ⟨(some 115), .call (.t 113) [(.c (.int .i64 2)), (.t 114)], none⟩,
              ⟨(some 116), .ext (.t 115) 0, none⟩,
              ⟨(some 117), .ext (.t 115) 1, none⟩,
              ⟨none, .store 3 (.t 2) (.t 116), none⟩,
              ⟨(some 3), .mv (.t 117), none⟩] [2, 3])
            .ret)
            (.seq (.reg [⟨(some 119), .mv (.t 4), none⟩,
              ⟨(some 120), .call (.f 114) [(.t 119)], none⟩,
              ⟨(some 121), .mv (.t 120), none⟩,
              ⟨(some 122), .mv (.t 7), (some (121, true))⟩,
              ⟨(some 123), .call (.f 115) [(.t 122)], (some (121, true))⟩,
              ⟨(some 124), .pick (.t 121) (.t 123) (.c (.bool false)), none⟩,
              ⟨(some 118), .mv (.t 124), none⟩] [2, 5, 7, 118])
            (.cond (.t 118) true
             (.seq (.reg [⟨(some 125), .mv (.t 5), none⟩,
               ⟨(some 126), .mv (.t 7), none⟩,
               ⟨(some 127), .call (.t 125) [(.c (.int .i64 4)), (.t 126)], none⟩,
               ⟨(some 128), .ext (.t 127) 0, none⟩,
               ⟨(some 129), .ext (.t 127) 1, none⟩,
               ⟨none, .store 3 (.t 2) (.t 128), none⟩,
               ⟨(some 3), .mv (.t 129), none⟩] [2, 3])
             .ret)
             .skip)))))))))
       (.seq (.reg [⟨(some 130), .build [(.int .i64 0), (.str []), (.int .i64 0)] [], none⟩,
         ⟨none, .store 3 (.t 2) (.t 130), none⟩,
         ⟨(some 3), .mv (.c (.bool false)), none⟩] [2, 3])
       .ret)))
       (.seq (.reg [⟨(some 132), .mv (.t 4), none⟩,
         ⟨(some 133), .call (.f 116) [(.t 132)], none⟩,
         ⟨(some 131), .mv (.t 133), none⟩] [1, 2, 5, 131])
       (.cond (.t 131) true
        (.seq (.dreg [⟨⟨(some 134), .load none (.t 1), none⟩, []⟩,
          ⟨⟨(some 135), .load none (.t 1), none⟩, []⟩,
          ⟨⟨(some 136), .nilck (.t 135), none⟩, []⟩,
          ⟨⟨(some 137), .faddr 1 (.t 136), none⟩, []⟩,
          ⟨⟨(some 138), .load none (.t 137), none⟩, []⟩,
          ⟨⟨(some 139), .call (.f 111) [(.t 134), (.t 138), (.f 116)], none⟩, []⟩,
          ⟨⟨(some 8), .mv (.t 139), none⟩, []⟩] [2, 5, 8])
        (.block 2 (.seq (.reg [⟨(some 141), .mv (.t 8), none⟩,
           ⟨(some 142), .call (.f 117) [(.t 141)], none⟩,
           ⟨(some 140), .mv (.t 142), none⟩] [2, 5, 8, 140])
         (.cond (.t 140) true
          (.seq (.reg [⟨(some 143), .mv (.t 5), none⟩,
            ⟨(some 144), .mv (.t 8), none⟩,
            ⟨(some 145), .call (.t 143) [(.c (.int .i64 5)), (.t 144)], none⟩,
            ⟨(some 146), .ext (.t 145) 0, none⟩,
            ⟨(some 147), .ext (.t 145) 1, none⟩,
            ⟨none, .store 3 (.t 2) (.t 146), none⟩,
            ⟨(some 3), .mv (.t 147), none⟩] [2, 3])
          .ret)
          (.seq (.reg [⟨(some 149), .mv (.t 8), none⟩,
            ⟨(some 150), .call (.f 118) [(.t 149)], none⟩,
            ⟨(some 148), .mv (.t 150), none⟩] [2, 5, 8, 148])
          (.cond (.t 148) true
           (.seq (.reg [⟨(some 151), .mv (.t 5), none⟩,
             ⟨(some 152), .mv (.t 8), none⟩,
             ⟨(some 153), .call (.t 151) [(.c (.int .i64 3)), (.t 152)], none⟩,
             ⟨(some 154), .ext (.t 153) 0, none⟩,
             ⟨(some 155), .ext (.t 153) 1, none⟩,
             ⟨none, .store 3 (.t 2) (.t 154), none⟩,
             ⟨(some 3), .mv (.t 155), none⟩] [2, 3])
           .ret)
           .skip))))))
        .skip)))))))))))
 (.seq (.reg [⟨(some 156), .build [(.int .i64 0), (.str []), (.int .i64 0)] [], none⟩,
   ⟨none, .store 3 (.t 2) (.t 156), none⟩,
   ⟨(some 3), .mv (.c (.bool false)), none⟩] [2, 3])
 .ret))))))), [.cell (some 3) 2, .tmp 3], 157⟩
theorem h_token : compFn Tryz.prog k_token 50 = some c_token := by kernel_rfl
/-- damask/lexis.isName -/
abbrev f_isName : FuncId := 102
def k_isName : Tab := [(0, [], [0]), (1, [], [0, 26]), (2, [], [2]), (3, [], [0, 28, 29]), (4, [], [0, 28, 29, 30]), (5, [], [0, 3, 28, 29]), (6, [], [0, 28, 29, 36]), (7, [], [2]), (8, [], [0, 28, 29]), (9, [], [2]), (999999, [26, 30, 36], [])]
def l_isName_0 : ACode := (.seq (.reg [⟨(some 30), .bin .lss (.t 29) (.t 28), none⟩] [0, 28, 29, 30])
 (.seq (.cond (.t 30) true
   .skip
   (.exit 0))
 (.seq (.block 1 (.seq (.reg [⟨(some 31), .mv (.t 29), none⟩,
     ⟨(some 3), .mv (.t 31), none⟩] [0, 3, 28, 29])
   (.seq (.reg [⟨(some 32), .mv (.t 0), none⟩,
     ⟨(some 33), .mv (.t 3), none⟩,
     ⟨(some 34), .ixS (.t 32) (.t 33), none⟩,
     ⟨(some 35), .call (.f 110) [(.t 34)], none⟩,
     ⟨(some 36), .not (.t 35), none⟩] [0, 28, 29, 36])
   (.cond (.t 36) true
    (.seq (.reg [⟨(some 2), .mv (.c (.bool false)), none⟩] [2])
    .ret)
    .skip))))
 (.reg [⟨(some 37), .bin .add (.t 29) (.c (.int .i64 1)), none⟩,
  ⟨(some 29), .mv (.t 37), none⟩] [0, 28, 29]))))
def c_isName : AFn := ⟨(.seq (.reg [⟨(some 2), .mv (.c (.bool false)), none⟩] [0])
 (.seq (.seq (.reg [⟨(some 4), .mv (.t 0), none⟩,
    ⟨(some 5), .bin .eql (.t 4) (.c (.str [])), none⟩,
    ⟨(some 6), .mv (.t 5), none⟩,
    ⟨(some 7), .mv (.t 0), (some (6, false))⟩,
    ⟨(some 8), .lenS (.t 7), (some (6, false))⟩,
    ⟨(some 9), .bin .gtr (.t 8) (.c (.int .i64 16)), (some (6, false))⟩,
    ⟨(some 10), .pick (.t 6) (.c (.bool true)) (.t 9), none⟩,
    ⟨(some 11), .mv (.t 10), none⟩,
    ⟨(some 12), .mv (.t 0), (some (11, false))⟩,
    ⟨(some 13), .ixS (.t 12) (.c (.int .i64 0)), (some (11, false))⟩,
    ⟨(some 14), .call (.f 188) [(.t 13)], (some (11, false))⟩,
    ⟨(some 15), .not (.t 14), (some (11, false))⟩,
    ⟨(some 16), .mv (.t 15), (some (11, false))⟩,
    ⟨(some 17), .mv (.t 0), (some (16, true))⟩,
    ⟨(some 18), .ixS (.t 17) (.c (.int .i64 0)), (some (16, true))⟩,
    ⟨(some 19), .call (.f 103) [(.t 18)], (some (16, true))⟩,
    ⟨(some 20), .not (.t 19), (some (16, true))⟩,
    ⟨(some 21), .pick (.t 16) (.t 20) (.c (.bool false)), (some (11, false))⟩,
    ⟨(some 22), .pick (.t 11) (.c (.bool true)) (.t 21), none⟩,
    ⟨(some 23), .mv (.t 22), none⟩,
    ⟨(some 24), .mv (.t 0), (some (23, false))⟩,
    ⟨(some 25), .call (.f 112) [(.t 24)], (some (23, false))⟩,
    ⟨(some 26), .pick (.t 23) (.c (.bool true)) (.t 25), none⟩] [0, 26])
  (.cond (.t 26) true
   (.seq (.reg [⟨(some 2), .mv (.c (.bool false)), none⟩] [2])
   .ret)
   .skip))
 (.seq (.seq (.reg [⟨(some 27), .mv (.t 0), none⟩,
    ⟨(some 28), .lenS (.t 27), none⟩,
    ⟨(some 29), .mv (.c (.int .i64 0)), none⟩] [0, 28, 29])
  (.block 0 (.loop l_isName_0)))
 (.seq (.reg [⟨(some 2), .mv (.c (.bool true)), none⟩] [2])
 .ret)))), [.tmp 2], 38⟩
theorem h_isName : compFn Tryz.prog k_isName 102 = some c_isName := by kernel_rfl
/-- damask/lexis.isCapital -/
abbrev f_isCapital : FuncId := 103
def k_isCapital : Tab := [(0, [], [0]), (1, [], [2])]
def c_isCapital : AFn := ⟨(.seq (.reg [⟨(some 2), .mv (.c (.bool false)), none⟩] [0])
 (.seq (.reg [⟨(some 3), .mv (.t 0), none⟩,
   ⟨(some 4), .bin .geq (.t 3) (.c (.int .u8 65)), none⟩,
   ⟨(some 5), .mv (.t 4), none⟩,
   ⟨(some 6), .mv (.t 0), (some (5, true))⟩,
   ⟨(some 7), .bin .leq (.t 6) (.c (.int .u8 90)), (some (5, true))⟩,
   ⟨(some 8), .pick (.t 5) (.t 7) (.c (.bool false)), none⟩,
   ⟨(some 2), .mv (.t 8), none⟩] [2])
 .ret)), [.tmp 2], 9⟩
theorem h_isCapital : compFn Tryz.prog k_isCapital 103 = some c_isCapital := by kernel_rfl
/-- strings.HasPrefix -/
abbrev f_HasPrefix : FuncId := 107
def k_HasPrefix : Tab := [(0, [], [0, 1]), (1, [], [4])]
def c_HasPrefix : AFn := ⟨(.seq (.reg [⟨(some 4), .mv (.c (.bool false)), none⟩] [0, 1])
 (.seq (.reg [⟨(some 5), .mv (.t 0), none⟩,
   ⟨(some 6), .mv (.t 1), none⟩,
   ⟨(some 7), .call (.f 192) [(.t 5), (.t 6)], none⟩,
   ⟨(some 4), .mv (.t 7), none⟩] [4])
 .ret)), [.tmp 4], 8⟩
theorem h_HasPrefix : compFn Tryz.prog k_HasPrefix 107 = some c_HasPrefix := by kernel_rfl
/-- strings.IndexByte -/
abbrev f_IndexByte : FuncId := 108
def k_IndexByte : Tab := [(0, [], [0, 1]), (1, [], [4])]
def c_IndexByte : AFn := ⟨(.seq (.reg [⟨(some 4), .mv (.c (.int .i64 0)), none⟩] [0, 1])
 (.seq (.reg [⟨(some 5), .mv (.t 0), none⟩,
   ⟨(some 6), .mv (.t 1), none⟩,
   ⟨(some 7), .call (.f 193) [(.t 5), (.t 6)], none⟩,
   ⟨(some 4), .mv (.t 7), none⟩] [4])
 .ret)), [.tmp 4], 8⟩
theorem h_IndexByte : compFn Tryz.prog k_IndexByte 108 = some c_IndexByte := by kernel_rfl
/-- (*damask/lexis.source).token$1 -/
abbrev f_made : FuncId := 109
def k_made : Tab := [(0, [], [0, 1, 2, 5]), (1, [], [5, 6])]
def c_made : AFn := ⟨(.seq (.reg [⟨(some 5), .alloc [(.int .i64 0), (.str []), (.int .i64 0)], none⟩,
   ⟨(some 6), .mv (.c (.bool false)), none⟩] [0, 1, 2, 5])
 (.seq (.reg [⟨(some 7), .mv (.t 0), none⟩,
   ⟨(some 8), .mv (.t 1), none⟩,
   ⟨(some 9), .load none (.t 2), none⟩,
   ⟨(some 10), .nilck (.t 9), none⟩,
   ⟨(some 11), .faddr 1 (.t 10), none⟩,
   ⟨(some 12), .load none (.t 11), none⟩,
   ⟨(some 13), .build [(.int .i64 0), (.str []), (.int .i64 0)] [(0, 1, (.t 7)), (1, 1, (.t 8)), (2, 1, (.t 12))], none⟩,
   ⟨none, .store 3 (.t 5) (.t 13), none⟩,
   ⟨(some 6), .mv (.c (.bool true)), none⟩] [5, 6])
 .ret)), [.cell (some 3) 5, .tmp 6], 14⟩
theorem h_made : compFn Tryz.prog k_made 109 = some c_made := by kernel_rfl
/-- damask/lexis.isNameByte -/
abbrev f_isNameByte : FuncId := 110
def k_isNameByte : Tab := [(0, [], [0]), (1, [], [0, 3]), (2, [], [0, 6]), (3, [], [0, 6]), (4, [], [2]), (5, [], [2]), (999999, [3], [])]
def c_isNameByte : AFn := ⟨(.seq (.reg [⟨(some 2), .mv (.c (.bool false)), none⟩] [0])
 (.seq (.block 0 (.seq (.block 2 (.block 1 (.seq (.seq (.seq (.reg [⟨(some 4), .mv (.t 0), none⟩,
          ⟨(some 5), .call (.f 188) [(.t 4)], none⟩,
          ⟨(some 3), .mv (.t 5), none⟩] [0, 3])
        (.cond (.t 3) true
         (.exit 1)
         .skip))
       (.seq (.seq (.reg [⟨(some 7), .mv (.t 0), none⟩,
          ⟨(some 8), .call (.f 103) [(.t 7)], none⟩,
          ⟨(some 6), .mv (.t 8), none⟩] [0, 6])
        (.cond (.t 6) false
         .skip
         (.reg [⟨(some 9), .mv (.t 0), none⟩,
          ⟨(some 10), .call (.f 114) [(.t 9)], none⟩,
          ⟨(some 6), .mv (.t 10), none⟩] [0, 6])))
       (.cond (.t 6) false
        (.exit 2)
        .skip)))
      (.exit 0))))
   (.seq (.seq (.reg [⟨(some 2), .mv (.c (.bool true)), none⟩] [2])
    .ret)
   (.exit 0))))
 (.seq (.reg [⟨(some 11), .mv (.t 0), none⟩,
   ⟨(some 12), .bin .eql (.t 11) (.c (.int .u8 95)), none⟩,
   ⟨(some 13), .mv (.t 12), none⟩,
   ⟨(some 14), .mv (.t 0), (some (13, false))⟩,
   ⟨(some 15), .bin .eql (.t 14) (.c (.int .u8 39)), (some (13, false))⟩,
   ⟨(some 16), .pick (.t 13) (.c (.bool true)) (.t 15), none⟩,
   ⟨(some 2), .mv (.t 16), none⟩] [2])
 .ret))), [.tmp 2], 17⟩
theorem h_isNameByte : compFn Tryz.prog k_isNameByte 110 = some c_isNameByte := by kernel_rfl
/-- (*damask/lexis.source).span -/
abbrev f_span : FuncId := 111
def k_span : Tab := [(0, [], [0, 1, 2]), (1, [], [0, 1, 2, 7]), (2, [], [0, 1, 2, 7, 25]), (3, [], [0, 1, 2, 7]), (4, [], [6]), (999999, [25], [])]
def l_span_0 : ACode := (.seq (.seq (.reg [⟨(some 9), .mv (.t 7), none⟩,
    ⟨(some 10), .mv (.t 0), none⟩,
    ⟨(some 11), .nilck (.t 10), none⟩,
    ⟨(some 12), .faddr 0 (.t 11), none⟩,
    ⟨(some 13), .load none (.t 12), none⟩,
    ⟨(some 14), .lenS (.t 13), none⟩,
    ⟨(some 15), .bin .lss (.t 9) (.t 14), none⟩,
    ⟨(some 16), .mv (.t 15), none⟩,
    ⟨(some 17), .mv (.t 2), (some (16, true))⟩,
    ⟨(some 18), .mv (.t 0), (some (16, true))⟩,
    ⟨(some 19), .nilck (.t 18), (some (16, true))⟩,
    ⟨(some 20), .faddr 0 (.t 19), (some (16, true))⟩,
    ⟨(some 21), .load none (.t 20), (some (16, true))⟩,
    ⟨(some 22), .mv (.t 7), (some (16, true))⟩,
    ⟨(some 23), .ixS (.t 21) (.t 22), (some (16, true))⟩,
    ⟨(some 24), .call (.t 17) [(.t 23)], (some (16, true))⟩,
    ⟨(some 25), .pick (.t 16) (.t 24) (.c (.bool false)), none⟩] [0, 1, 2, 7, 25])
  (.cond (.t 25) true
   .skip
   (.exit 0)))
 (.block 1 (.reg [⟨(some 26), .mv (.t 7), none⟩,
   ⟨(some 27), .bin .add (.t 26) (.c (.int .i64 1)), none⟩,
   ⟨(some 7), .mv (.t 27), none⟩] [0, 1, 2, 7])))
def c_span : AFn := ⟨(.seq (.reg [⟨(some 6), .mv (.c (.str [])), none⟩] [0, 1, 2])
 (.seq (.reg [⟨(some 8), .mv (.t 1), none⟩,
   ⟨(some 7), .mv (.t 8), none⟩] [0, 1, 2, 7])
 (.seq (.block 0 (.loop l_span_0))
 (.seq (.reg [⟨(some 28), .mv (.t 0), none⟩,
   ⟨(some 29), .nilck (.t 28), none⟩,
   ⟨(some 30), .faddr 0 (.t 29), none⟩,
   ⟨(some 31), .load none (.t 30), none⟩,
   ⟨(some 32), .mv (.t 1), none⟩,
   ⟨(some 33), .mv (.t 7), none⟩,
   ⟨(some 34), .slS (.t 31) (some (.t 32)) (some (.t 33)), none⟩,
   ⟨(some 6), .mv (.t 34), none⟩] [6])
 .ret)))), [.tmp 6], 35⟩
theorem h_span : compFn Tryz.prog k_span 111 = some c_span := by kernel_rfl
/-- damask/lexis.isWord -/
abbrev f_isWord : FuncId := 112
def k_isWord : Tab := [(0, [], [0]), (1, [], [2])]
def c_isWord : AFn := ⟨(.seq (.reg [⟨(some 2), .mv (.c (.bool false)), none⟩] [0])
 (.seq (.reg [⟨(some 3), .call (.f 194) [], none⟩,
   ⟨(some 4), .mv (.t 0), none⟩,
   ⟨(some 5), .call (.f 180) [(.t 3), (.t 4)], none⟩,
   ⟨(some 2), .mv (.t 5), none⟩] [2])
 .ret)), [.tmp 2], 6⟩
theorem h_isWord : compFn Tryz.prog k_isWord 112 = some c_isWord := by kernel_rfl
/-- damask/lexis.IsSmall -/
abbrev f_IsSmall : FuncId := 113
def k_IsSmall : Tab := [(0, [], [0]), (1, [], [2])]
def c_IsSmall : AFn := ⟨(.seq (.reg [⟨(some 2), .mv (.c (.bool false)), none⟩] [0])
 (.seq (.reg [⟨(some 3), .mv (.t 0), none⟩,
   ⟨(some 4), .call (.f 102) [(.t 3)], none⟩,
   ⟨(some 5), .mv (.t 4), none⟩,
   ⟨(some 6), .mv (.t 0), (some (5, true))⟩,
   ⟨(some 7), .ixS (.t 6) (.c (.int .i64 0)), (some (5, true))⟩,
   ⟨(some 8), .call (.f 188) [(.t 7)], (some (5, true))⟩,
   ⟨(some 9), .pick (.t 5) (.t 8) (.c (.bool false)), none⟩,
   ⟨(some 2), .mv (.t 9), none⟩] [2])
 .ret)), [.tmp 2], 10⟩
theorem h_IsSmall : compFn Tryz.prog k_IsSmall 113 = some c_IsSmall := by kernel_rfl
/-- damask/lexis.isDigit -/
abbrev f_isDigit : FuncId := 114
def k_isDigit : Tab := [(0, [], [0]), (1, [], [2])]
def c_isDigit : AFn := ⟨(.seq (.reg [⟨(some 2), .mv (.c (.bool false)), none⟩] [0])
 (.seq (.reg [⟨(some 3), .mv (.t 0), none⟩,
   ⟨(some 4), .bin .geq (.t 3) (.c (.int .u8 48)), none⟩,
   ⟨(some 5), .mv (.t 4), none⟩,
   ⟨(some 6), .mv (.t 0), (some (5, true))⟩,
   ⟨(some 7), .bin .leq (.t 6) (.c (.int .u8 57)), (some (5, true))⟩,
   ⟨(some 8), .pick (.t 5) (.t 7) (.c (.bool false)), none⟩,
   ⟨(some 2), .mv (.t 8), none⟩] [2])
 .ret)), [.tmp 2], 9⟩
theorem h_isDigit : compFn Tryz.prog k_isDigit 114 = some c_isDigit := by kernel_rfl
/-- damask/lexis.number -/
abbrev f_number : FuncId := 115
def k_number : Tab := [(0, [], [0]), (1, [], [0, 3, 4]), (2, [], [2])]
def c_number : AFn := ⟨(.seq (.reg [⟨(some 2), .mv (.c (.bool false)), none⟩] [0])
 (.seq (.reg [⟨(some 6), .mv (.t 0), none⟩,
   ⟨(some 7), .call (.f 195) [(.t 6)], none⟩,
   ⟨(some 5), .mv (.t 7), none⟩,
   ⟨(some 8), .ext (.t 5) 0, none⟩,
   ⟨(some 9), .ext (.t 5) 1, none⟩,
   ⟨(some 3), .mv (.t 8), none⟩,
   ⟨(some 4), .mv (.t 9), none⟩] [0, 3, 4])
 (.seq (.reg [⟨(some 10), .mv (.t 4), none⟩,
   ⟨(some 11), .isnil false .iface (.t 10), none⟩,
   ⟨(some 12), .mv (.t 11), none⟩,
   ⟨(some 13), .mv (.t 3), (some (12, true))⟩,
   ⟨(some 14), .bin .geq (.t 13) (.c (.int .i64 0)), (some (12, true))⟩,
   ⟨(some 15), .pick (.t 12) (.t 14) (.c (.bool false)), none⟩,
   ⟨(some 16), .mv (.t 15), none⟩,
   ⟨(some 17), .mv (.t 3), (some (16, true))⟩,
   ⟨(some 18), .call (.f 196) [(.t 17)], (some (16, true))⟩,
   ⟨(some 19), .mv (.t 0), (some (16, true))⟩,
   ⟨(some 20), .bin .eql (.t 18) (.t 19), (some (16, true))⟩,
   ⟨(some 21), .pick (.t 16) (.t 20) (.c (.bool false)), none⟩,
   ⟨(some 2), .mv (.t 21), none⟩] [2])
 .ret))), [.tmp 2], 22⟩
theorem h_number : compFn Tryz.prog k_number 115 = some c_number := by kernel_rfl
/-- damask/lexis.isOpByte -/
abbrev f_isOpByte : FuncId := 116
def k_isOpByte : Tab := [(0, [], [0]), (1, [], [2])]
def c_isOpByte : AFn := ⟨(.seq (.reg [⟨(some 2), .mv (.c (.bool false)), none⟩] [0])
 (.seq (.reg [⟨(some 3), .mv (.t 0), none⟩,
   ⟨(some 4), .call (.f 108) [(.c (.str [33, 35, 36, 37, 38, 42, 43, 46, 47, 60, 61, 62, 63, 64, 94, 124, 45, 126, 58, 92])), (.t 3)], none⟩,
   ⟨(some 5), .bin .geq (.t 4) (.c (.int .i64 0)), none⟩,
   ⟨(some 2), .mv (.t 5), none⟩] [2])
 .ret)), [.tmp 2], 6⟩
theorem h_isOpByte : compFn Tryz.prog k_isOpByte 116 = some c_isOpByte := by kernel_rfl
/-- damask/lexis.reserved -/
abbrev f_reserved : FuncId := 117
def k_reserved : Tab := [(0, [], [0]), (1, [], [3]), (2, [], [3, 4]), (3, [], [3, 4]), (4, [], [3, 4]), (5, [], [3, 4]), (6, [], [3, 4]), (7, [], [3, 4]), (8, [], [3, 4]), (9, [], [3, 4]), (10, [], [3, 4]), (11, [], [3, 4]), (12, [], [4]), (13, [], [2]), (14, [], [2])]
def c_reserved : AFn := ⟨(.seq (.reg [⟨(some 2), .mv (.c (.bool false)), none⟩] [0])
 (.seq (.seq (.reg [⟨(some 3), .mv (.t 0), none⟩] [3])
  (.block 0 (.seq (.seq (.reg [⟨(some 5), .bin .eql (.t 3) (.c (.str [61])), none⟩,
      ⟨(some 4), .mv (.t 5), none⟩] [3, 4])
    (.cond (.t 4) false
     .skip
     (.seq (.reg [⟨(some 6), .bin .eql (.t 3) (.c (.str [45, 62])), none⟩,
       ⟨(some 4), .mv (.t 6), none⟩] [3, 4])
     (.cond (.t 4) false
      .skip
      (.seq (.reg [⟨(some 7), .bin .eql (.t 3) (.c (.str [61, 62])), none⟩,
        ⟨(some 4), .mv (.t 7), none⟩] [3, 4])
      (.cond (.t 4) false
       .skip
       (.seq (.reg [⟨(some 8), .bin .eql (.t 3) (.c (.str [60, 45])), none⟩,
         ⟨(some 4), .mv (.t 8), none⟩] [3, 4])
       (.cond (.t 4) false
        .skip
        (.seq (.reg [⟨(some 9), .bin .eql (.t 3) (.c (.str [58])), none⟩,
          ⟨(some 4), .mv (.t 9), none⟩] [3, 4])
        (.cond (.t 4) false
         .skip
         (.seq (.reg [⟨(some 10), .bin .eql (.t 3) (.c (.str [124])), none⟩,
           ⟨(some 4), .mv (.t 10), none⟩] [3, 4])
         (.cond (.t 4) false
          .skip
          (.seq (.reg [⟨(some 11), .bin .eql (.t 3) (.c (.str [64])), none⟩,
            ⟨(some 4), .mv (.t 11), none⟩] [3, 4])
          (.cond (.t 4) false
           .skip
           (.seq (.reg [⟨(some 12), .bin .eql (.t 3) (.c (.str [126])), none⟩,
             ⟨(some 4), .mv (.t 12), none⟩] [3, 4])
           (.cond (.t 4) false
            .skip
            (.seq (.reg [⟨(some 13), .bin .eql (.t 3) (.c (.str [33])), none⟩,
              ⟨(some 4), .mv (.t 13), none⟩] [3, 4])
            (.cond (.t 4) false
             .skip
             (.seq (.reg [⟨(some 14), .bin .eql (.t 3) (.c (.str [46])), none⟩,
               ⟨(some 4), .mv (.t 14), none⟩] [3, 4])
             (.cond (.t 4) false
              .skip
              (.reg [⟨(some 15), .bin .eql (.t 3) (.c (.str [92])), none⟩,
               ⟨(some 4), .mv (.t 15), none⟩] [4])))))))))))))))))))))
   (.cond (.t 4) false
    (.seq (.reg [⟨(some 2), .mv (.c (.bool true)), none⟩] [2])
    .ret)
    .skip))))
 (.seq (.reg [⟨(some 2), .mv (.c (.bool false)), none⟩] [2])
 .ret))), [.tmp 2], 16⟩
theorem h_reserved : compFn Tryz.prog k_reserved 117 = some c_reserved := by kernel_rfl
/-- damask/lexis.IsOp -/
abbrev f_IsOp : FuncId := 118
def k_IsOp : Tab := [(0, [], [0]), (1, [], [0, 18]), (2, [], [2]), (3, [], [0, 20, 21]), (4, [], [0, 20, 21, 22]), (5, [], [0, 3, 20, 21]), (6, [], [0, 20, 21, 28]), (7, [], [2]), (8, [], [0, 20, 21]), (9, [], [2]), (999999, [18, 22, 28], [])]
def l_IsOp_0 : ACode := (.seq (.reg [⟨(some 22), .bin .lss (.t 21) (.t 20), none⟩] [0, 20, 21, 22])
 (.seq (.cond (.t 22) true
   .skip
   (.exit 0))
 (.seq (.block 1 (.seq (.reg [⟨(some 23), .mv (.t 21), none⟩,
     ⟨(some 3), .mv (.t 23), none⟩] [0, 3, 20, 21])
   (.seq (.reg [⟨(some 24), .mv (.t 0), none⟩,
     ⟨(some 25), .mv (.t 3), none⟩,
     ⟨(some 26), .ixS (.t 24) (.t 25), none⟩,
     ⟨(some 27), .call (.f 116) [(.t 26)], none⟩,
     ⟨(some 28), .not (.t 27), none⟩] [0, 20, 21, 28])
   (.cond (.t 28) true
    (.seq (.reg [⟨(some 2), .mv (.c (.bool false)), none⟩] [2])
    .ret)
    .skip))))
 (.reg [⟨(some 29), .bin .add (.t 21) (.c (.int .i64 1)), none⟩,
  ⟨(some 21), .mv (.t 29), none⟩] [0, 20, 21]))))
def c_IsOp : AFn := ⟨(.seq (.reg [⟨(some 2), .mv (.c (.bool false)), none⟩] [0])
 (.seq (.seq (.reg [⟨(some 4), .mv (.t 0), none⟩,
    ⟨(some 5), .bin .eql (.t 4) (.c (.str [])), none⟩,
    ⟨(some 6), .mv (.t 5), none⟩,
    ⟨(some 7), .mv (.t 0), (some (6, false))⟩,
    ⟨(some 8), .lenS (.t 7), (some (6, false))⟩,
    ⟨(some 9), .bin .gtr (.t 8) (.c (.int .i64 16)), (some (6, false))⟩,
    ⟨(some 10), .pick (.t 6) (.c (.bool true)) (.t 9), none⟩,
    ⟨(some 11), .mv (.t 10), none⟩,
    ⟨(some 12), .mv (.t 0), (some (11, false))⟩,
    ⟨(some 13), .call (.f 117) [(.t 12)], (some (11, false))⟩,
    ⟨(some 14), .pick (.t 11) (.c (.bool true)) (.t 13), none⟩,
    ⟨(some 15), .mv (.t 14), none⟩,
    ⟨(some 16), .mv (.t 0), (some (15, false))⟩,
    ⟨(some 17), .call (.f 107) [(.t 16), (.c (.str [45, 45]))], (some (15, false))⟩,
    ⟨(some 18), .pick (.t 15) (.c (.bool true)) (.t 17), none⟩] [0, 18])
  (.cond (.t 18) true
   (.seq (.reg [⟨(some 2), .mv (.c (.bool false)), none⟩] [2])
   .ret)
   .skip))
 (.seq (.seq (.reg [⟨(some 19), .mv (.t 0), none⟩,
    ⟨(some 20), .lenS (.t 19), none⟩,
    ⟨(some 21), .mv (.c (.int .i64 0)), none⟩] [0, 20, 21])
  (.block 0 (.loop l_IsOp_0)))
 (.seq (.reg [⟨(some 2), .mv (.c (.bool true)), none⟩] [2])
 .ret)))), [.tmp 2], 30⟩
theorem h_IsOp : compFn Tryz.prog k_IsOp 118 = some c_IsOp := by kernel_rfl
/-- slices.Contains[[]string,string] -/
abbrev f_contains : FuncId := 180
def k_contains : Tab := [(0, [], [0, 1]), (1, [], [4])]
def c_contains : AFn := ⟨(.seq (.reg [⟨(some 4), .mv (.c (.bool false)), none⟩] [0, 1])
 (.seq (.reg [⟨(some 5), .mv (.t 0), none⟩,
   ⟨(some 6), .mv (.t 1), none⟩,
   ⟨(some 7), .call (.f 242) [(.t 5), (.t 6)], none⟩,
   ⟨(some 8), .bin .geq (.t 7) (.c (.int .i64 0)), none⟩,
   ⟨(some 4), .mv (.t 8), none⟩] [4])
 .ret)), [.tmp 4], 9⟩
theorem h_contains : compFn Tryz.prog k_contains 180 = some c_contains := by kernel_rfl
/-- damask/lexis.isSmall -/
abbrev f_isSmall : FuncId := 188
def k_isSmall : Tab := [(0, [], [0]), (1, [], [2])]
def c_isSmall : AFn := ⟨(.seq (.reg [⟨(some 2), .mv (.c (.bool false)), none⟩] [0])
 (.seq (.reg [⟨(some 3), .mv (.t 0), none⟩,
   ⟨(some 4), .bin .geq (.t 3) (.c (.int .u8 97)), none⟩,
   ⟨(some 5), .mv (.t 4), none⟩,
   ⟨(some 6), .mv (.t 0), (some (5, true))⟩,
   ⟨(some 7), .bin .leq (.t 6) (.c (.int .u8 122)), (some (5, true))⟩,
   ⟨(some 8), .pick (.t 5) (.t 7) (.c (.bool false)), none⟩,
   ⟨(some 2), .mv (.t 8), none⟩] [2])
 .ret)), [.tmp 2], 9⟩
theorem h_isSmall : compFn Tryz.prog k_isSmall 188 = some c_isSmall := by kernel_rfl
/-- internal/stringslite.HasPrefix -/
abbrev f_slHasPrefix : FuncId := 192
def k_slHasPrefix : Tab := [(0, [], [0, 1]), (1, [], [4])]
def c_slHasPrefix : AFn := ⟨(.seq (.reg [⟨(some 4), .mv (.c (.bool false)), none⟩] [0, 1])
 (.seq (.reg [⟨(some 5), .mv (.t 0), none⟩,
   ⟨(some 6), .lenS (.t 5), none⟩,
   ⟨(some 7), .mv (.t 1), none⟩,
   ⟨(some 8), .lenS (.t 7), none⟩,
   ⟨(some 9), .bin .geq (.t 6) (.t 8), none⟩,
   ⟨(some 10), .mv (.t 9), none⟩,
   ⟨(some 11), .mv (.t 0), (some (10, true))⟩,
   ⟨(some 12), .mv (.t 1), (some (10, true))⟩,
   ⟨(some 13), .lenS (.t 12), (some (10, true))⟩,
   ⟨(some 14), .slS (.t 11) none (some (.t 13)), (some (10, true))⟩,
   ⟨(some 15), .mv (.t 1), (some (10, true))⟩,
   ⟨(some 16), .bin .eql (.t 14) (.t 15), (some (10, true))⟩,
   ⟨(some 17), .pick (.t 10) (.t 16) (.c (.bool false)), none⟩,
   ⟨(some 4), .mv (.t 17), none⟩] [4])
 .ret)), [.tmp 4], 18⟩
theorem h_slHasPrefix : compFn Tryz.prog k_slHasPrefix 192 = some c_slHasPrefix := by kernel_rfl
/-- internal/stringslite.IndexByte -/
abbrev f_slIndexByte : FuncId := 193
def k_slIndexByte : Tab := [(0, [], [0, 1]), (1, [], [4])]
def c_slIndexByte : AFn := ⟨(.seq (.reg [⟨(some 4), .mv (.c (.int .i64 0)), none⟩] [0, 1])
 (.seq (.reg [⟨(some 5), .mv (.t 0), none⟩,
   ⟨(some 6), .mv (.t 1), none⟩,
   ⟨(some 7), .call (.f 258) [(.t 5), (.t 6)], none⟩,
   ⟨(some 4), .mv (.t 7), none⟩] [4])
 .ret)), [.tmp 4], 8⟩
theorem h_slIndexByte : compFn Tryz.prog k_slIndexByte 193 = some c_slIndexByte := by kernel_rfl
/-- damask/lexis.words -/
abbrev f_words : FuncId := 194
def k_words : Tab := [(0, [], []), (1, [], [0])]
def c_words : AFn := ⟨(.seq (.reg [⟨(some 0), .mv (.c (.sl [] .full)), none⟩] [])
 (.seq (.reg [⟨(some 1), .call (.f 259) [(.c (.str [99, 97, 115, 101, 32, 99, 108, 97, 115, 115, 32, 100, 97, 116, 97, 32, 100, 101, 114, 105, 118, 105, 110, 103, 32, 100, 111, 32, 101, 108, 115, 101, 32, 102, 97, 109, 105, 108, 121, 32, 102, 111, 114, 97, 108, 108, 32, 105, 102, 32, 105, 109, 112, 111, 114, 116, 32, 105, 110, 32, 105, 110, 102, 105, 120, 32, 105, 110, 102, 105, 120, 108, 32, 105, 110, 102, 105, 120, 114, 32, 105, 110, 115, 116, 97, 110, 99, 101, 32, 108, 101, 116, 32, 109, 111, 100, 117, 108, 101, 32, 110, 101, 119, 116, 121, 112, 101, 32, 111, 102, 32, 116, 104, 101, 110, 32, 119, 104, 101, 114, 101]))], none⟩,
   ⟨(some 0), .mv (.t 1), none⟩] [0])
 .ret)), [.tmp 0], 2⟩
theorem h_words : compFn Tryz.prog k_words 194 = some c_words := by kernel_rfl
/-- strconv.Atoi -/
abbrev f_Atoi : FuncId := 195
/-- strconv.Itoa -/
abbrev f_Itoa : FuncId := 196
/-- slices.Index[[]string,string] -/
abbrev f_index : FuncId := 242
def k_index : Tab := [(0, [], [0, 1]), (1, [], [0, 1, 7, 8]), (2, [], [0, 1, 7, 8, 9]), (3, [], [0, 1, 5, 7, 8]), (4, [], [0, 1, 5, 7, 8, 16]), (5, [], [4]), (6, [], [0, 1, 7, 8]), (7, [], [4]), (999999, [9, 16], [])]
def l_index_0 : ACode := (.seq (.reg [⟨(some 9), .bin .lss (.t 8) (.t 7), none⟩] [0, 1, 7, 8, 9])
 (.seq (.cond (.t 9) true
   .skip
   (.exit 0))
 (.seq (.block 1 (.seq (.reg [⟨(some 10), .mv (.t 8), none⟩,
     ⟨(some 5), .mv (.t 10), none⟩] [0, 1, 5, 7, 8])
   (.seq (.reg [⟨(some 11), .mv (.t 1), none⟩,
     ⟨(some 12), .mv (.t 0), none⟩,
     ⟨(some 13), .mv (.t 5), none⟩,
     ⟨(some 14), .iaddr 1 (.t 12) (.t 13), none⟩,
     ⟨(some 15), .load none (.t 14), none⟩,
     ⟨(some 16), .bin .eql (.t 11) (.t 15), none⟩] [0, 1, 5, 7, 8, 16])
   (.cond (.t 16) true
    (.seq (.reg [⟨(some 17), .mv (.t 5), none⟩,
      ⟨(some 4), .mv (.t 17), none⟩] [4])
    .ret)
    .skip))))
 (.reg [⟨(some 18), .bin .add (.t 8) (.c (.int .i64 1)), none⟩,
  ⟨(some 8), .mv (.t 18), none⟩] [0, 1, 7, 8]))))
def c_index : AFn := ⟨(.seq (.reg [⟨(some 4), .mv (.c (.int .i64 0)), none⟩] [0, 1])
 (.seq (.seq (.reg [⟨(some 6), .mv (.t 0), none⟩,
    ⟨(some 7), .lenL (.t 6), none⟩,
    ⟨(some 8), .mv (.c (.int .i64 0)), none⟩] [0, 1, 7, 8])
  (.block 0 (.loop l_index_0)))
 (.seq (.reg [⟨(some 4), .mv (.c (.int .i64 (-1))), none⟩] [4])
 .ret))), [.tmp 4], 19⟩
theorem h_index : compFn Tryz.prog k_index 242 = some c_index := by kernel_rfl
/-- internal/bytealg.IndexByteString -/
abbrev f_IndexByteString : FuncId := 258
/-- strings.Fields -/
abbrev f_Fields : FuncId := 259
end Go.Proofs.YtmpoklkgdcofbaaGreatDoor

