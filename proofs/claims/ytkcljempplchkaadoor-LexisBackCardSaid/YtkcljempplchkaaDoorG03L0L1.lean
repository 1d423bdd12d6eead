/- MADE BY PROGRAM (wip/eng/Gen1.lean): the functions of the lexis laws, compiled for the engine. -/
import Derived.Test.YtkcljempplchkaaDoorG02E19E19
import Derived.Test.YtkcljempplchkaaDoorChecked
import Derived.KernelRfl
set_option maxRecDepth 100000
namespace Go.Proofs.YtkcljempplchkaaDoor
open Go.Eng

/-- damask/lexis.isSmall -/
abbrev f_isSmall : FuncId := 32
def k_isSmall : Tab := [(0, [], [0]), (1, [], [2])]
def c_isSmall : AFn := ⟨(.seq (.reg [⟨(some 2), .mv (.c (.bool false)), none⟩] [0])
 (.seq (.reg [⟨(some 3), .mv (.t 0), none⟩,
   ⟨(some 4), .bin .geq (.t 3) (.c (.int .u8 97)), none⟩,
   ⟨(some 5), .mv (.t 4), none⟩,
   ⟨(some 6), .mv (.t 0), (some (5, true))⟩,
   ⟨(some 7), .bin .leq (.t 6) (.c (.int .u8 122)), (some (5, true))⟩,
   ⟨(some 8), .pick (.t 5) (.t 7) (.c (.bool false)), none⟩,
   ⟨(some 2), .mv (.t 8), none⟩] [2])
 .ret)), [.tmp 2], 9⟩
theorem h_isSmall : compFn Tryd.prog k_isSmall 32 = some c_isSmall := by kernel_rfl
/-- damask/lexis.isCapital -/
abbrev f_isCapital : FuncId := 36
def k_isCapital : Tab := [(0, [], [0]), (1, [], [2])]
def c_isCapital : AFn := ⟨(.seq (.reg [⟨(some 2), .mv (.c (.bool false)), none⟩] [0])
 (.seq (.reg [⟨(some 3), .mv (.t 0), none⟩,
   ⟨(some 4), .bin .geq (.t 3) (.c (.int .u8 65)), none⟩,
   ⟨(some 5), .mv (.t 4), none⟩,
   ⟨(some 6), .mv (.t 0), (some (5, true))⟩,
   ⟨(some 7), .bin .leq (.t 6) (.c (.int .u8 90)), (some (5, true))⟩,
   ⟨(some 8), .pick (.t 5) (.t 7) (.c (.bool false)), none⟩,
   ⟨(some 2), .mv (.t 8), none⟩] [2])
 .ret)), [.tmp 2], 9⟩
theorem h_isCapital : compFn Tryd.prog k_isCapital 36 = some c_isCapital := by kernel_rfl
/-- damask/lexis.isDigit -/
abbrev f_isDigit : FuncId := 56
def k_isDigit : Tab := [(0, [], [0]), (1, [], [2])]
def c_isDigit : AFn := ⟨(.seq (.reg [⟨(some 2), .mv (.c (.bool false)), none⟩] [0])
 (.seq (.reg [⟨(some 3), .mv (.t 0), none⟩,
   ⟨(some 4), .bin .geq (.t 3) (.c (.int .u8 48)), none⟩,
   ⟨(some 5), .mv (.t 4), none⟩,
   ⟨(some 6), .mv (.t 0), (some (5, true))⟩,
   ⟨(some 7), .bin .leq (.t 6) (.c (.int .u8 57)), (some (5, true))⟩,
   ⟨(some 8), .pick (.t 5) (.t 7) (.c (.bool false)), none⟩,
   ⟨(some 2), .mv (.t 8), none⟩] [2])
 .ret)), [.tmp 2], 9⟩
theorem h_isDigit : compFn Tryd.prog k_isDigit 56 = some c_isDigit := by kernel_rfl
/-- damask/lexis.isNameByte -/
abbrev f_isNameByte : FuncId := 53
def k_isNameByte : Tab := [(0, [], [0]), (1, [], [0, 3]), (2, [], [0, 6]), (3, [], [0, 6]), (4, [], [2]), (5, [], [2]), (999999, [3], [])]
def c_isNameByte : AFn := ⟨(.seq (.reg [⟨(some 2), .mv (.c (.bool false)), none⟩] [0])
 (.seq (.block 0 (.seq (.block 2 (.block 1 (.seq (.seq (.seq (.reg [⟨(some 4), .mv (.t 0), none⟩,
          ⟨(some 5), .call (.f 32) [(.t 4)], none⟩,
          ⟨(some 3), .mv (.t 5), none⟩] [0, 3])
        (.cond (.t 3) true
         (.exit 1)
         .skip))
       (.seq (.seq (.reg [⟨(some 7), .mv (.t 0), none⟩,
          ⟨(some 8), .call (.f 36) [(.t 7)], none⟩,
          ⟨(some 6), .mv (.t 8), none⟩] [0, 6])
        (.cond (.t 6) false
         .skip
         (.reg [⟨(some 9), .mv (.t 0), none⟩,
          ⟨(some 10), .call (.f 56) [(.t 9)], none⟩,
          ⟨(some 6), .mv (.t 10), none⟩] [0, 6])))
       (.cond (.t 6) false
        (.exit 2)
        .skip)))
      (.exit 0))))
   (.seq (.seq (.reg [⟨(some 2), .mv (.c (.bool true)), none⟩] [2])
    .ret)
   (.exit 0))))
 (.seq (.reg [⟨(some 11), .mv (.t 0), none⟩,
   ⟨(some 12), .bin .eql (.t 11) (.c (.int .u8 95)), none⟩,
   ⟨(some 13), .mv (.t 12), none⟩,
   ⟨(some 14), .mv (.t 0), (some (13, false))⟩,
   ⟨(some 15), .bin .eql (.t 14) (.c (.int .u8 39)), (some (13, false))⟩,
   ⟨(some 16), .pick (.t 13) (.c (.bool true)) (.t 15), none⟩,
   ⟨(some 2), .mv (.t 16), none⟩] [2])
 .ret))), [.tmp 2], 17⟩
theorem h_isNameByte : compFn Tryd.prog k_isNameByte 53 = some c_isNameByte := by kernel_rfl
/-- damask/lexis.isOpByte -/
abbrev f_isOpByte : FuncId := 40
def k_isOpByte : Tab := [(0, [], [0]), (1, [], [2])]
def c_isOpByte : AFn := ⟨(.seq (.reg [⟨(some 2), .mv (.c (.bool false)), none⟩] [0])
 (.seq (.reg [⟨(some 3), .mv (.t 0), none⟩,
   ⟨(some 4), .call (.f 51) [(.c (.str [33, 35, 36, 37, 38, 42, 43, 46, 47, 60, 61, 62, 63, 64, 94, 124, 45, 126, 58, 92])), (.t 3)], none⟩,
   ⟨(some 5), .bin .geq (.t 4) (.c (.int .i64 0)), none⟩,
   ⟨(some 2), .mv (.t 5), none⟩] [2])
 .ret)), [.tmp 2], 6⟩
theorem h_isOpByte : compFn Tryd.prog k_isOpByte 40 = some c_isOpByte := by kernel_rfl
/-- damask/lexis.reserved -/
abbrev f_reserved : FuncId := 38
def k_reserved : Tab := [(0, [], [0]), (1, [], [3]), (2, [], [3, 4]), (3, [], [3, 4]), (4, [], [3, 4]), (5, [], [3, 4]), (6, [], [3, 4]), (7, [], [3, 4]), (8, [], [3, 4]), (9, [], [3, 4]), (10, [], [3, 4]), (11, [], [3, 4]), (12, [], [4]), (13, [], [2]), (14, [], [2])]
def c_reserved : AFn := ⟨(.seq (.reg [⟨(some 2), .mv (.c (.bool false)), none⟩] [0])
 (.seq (.seq (.reg [⟨(some 3), .mv (.t 0), none⟩] [3])
  (.block 0 (.seq (.seq (.reg [⟨(some 5), .bin .eql (.t 3) (.c (.str [61])), none⟩,
      ⟨(some 4), .mv (.t 5), none⟩] [3, 4])
    (.cond (.t 4) false
     .skip
     (.seq (.reg [⟨(some 6), .bin .eql (.t 3) (.c (.str [45, 62])), none⟩,
       ⟨(some 4), .mv (.t 6), none⟩] [3, 4])
     (.cond (.t 4) false
      .skip
      (.seq (.reg [⟨(some 7), .bin .eql (.t 3) (.c (.str [61, 62])), none⟩,
        ⟨(some 4), .mv (.t 7), none⟩] [3, 4])
      (.cond (.t 4) false
       .skip
       (.seq (.reg [⟨(some 8), .bin .eql (.t 3) (.c (.str [60, 45])), none⟩,
         ⟨(some 4), .mv (.t 8), none⟩] [3, 4])
       (.cond (.t 4) false
        .skip
        (.seq (.reg [⟨(some 9), .bin .eql (.t 3) (.c (.str [58])), none⟩,
          ⟨(some 4), .mv (.t 9), none⟩] [3, 4])
        (.cond (.t 4) false
         .skip
         (.seq (.reg [⟨(some 10), .bin .eql (.t 3) (.c (.str [124])), none⟩,
           ⟨(some 4), .mv (.t 10), none⟩] [3, 4])
         (.cond (.t 4) false
          .skip
          (.seq (.reg [⟨(some 11), .bin .eql (.t 3) (.c (.str [64])), none⟩,
            ⟨(some 4), .mv (.t 11), none⟩] [3, 4])
          (.cond (.t 4) false
           .skip
           (.seq (.reg [⟨(some 12), .bin .eql (.t 3) (.c (.str [126])), none⟩,
             ⟨(some 4), .mv (.t 12), none⟩] [3, 4])
           (.cond (.t 4) false
            .skip
            (.seq (.reg [⟨(some 13), .bin .eql (.t 3) (.c (.str [33])), none⟩,
              ⟨(some 4), .mv (.t 13), none⟩] [3, 4])
            (.cond (.t 4) false
             .skip
             (.seq (.reg [⟨(some 14), .bin .eql (.t 3) (.c (.str [46])), none⟩,
               ⟨(some 4), .mv (.t 14), none⟩] [3, 4])
             (.cond (.t 4) false
              .skip
              (.reg [⟨(some 15), .bin .eql (.t 3) (.c (.str [92])), none⟩,
               ⟨(some 4), .mv (.t 15), none⟩] [4])))))))))))))))))))))
   (.cond (.t 4) false
    (.seq (.reg [⟨(some 2), .mv (.c (.bool true)), none⟩] [2])
    .ret)
    .skip))))
 (.seq (.reg [⟨(some 2), .mv (.c (.bool false)), none⟩] [2])
 .ret))), [.tmp 2], 16⟩
theorem h_reserved : compFn Tryd.prog k_reserved 38 = some c_reserved := by kernel_rfl
/-- damask/lexis.words -/
abbrev f_words : FuncId := 43
def k_words : Tab := [(0, [], []), (1, [], [0])]
def c_words : AFn := ⟨(.seq (.reg [⟨(some 0), .mv (.c (.sl [] .full)), none⟩] [])
 (.seq (.reg [⟨(some 1), .call (.f 63) [(.c (.str [99, 97, 115, 101, 32, 99, 108, 97, 115, 115, 32, 100, 97, 116, 97, 32, 100, 101, 114, 105, 118, 105, 110, 103, 32, 100, 111, 32, 101, 108, 115, 101, 32, 102, 97, 109, 105, 108, 121, 32, 102, 111, 114, 97, 108, 108, 32, 105, 102, 32, 105, 109, 112, 111, 114, 116, 32, 105, 110, 32, 105, 110, 102, 105, 120, 32, 105, 110, 102, 105, 120, 108, 32, 105, 110, 102, 105, 120, 114, 32, 105, 110, 115, 116, 97, 110, 99, 101, 32, 108, 101, 116, 32, 109, 111, 100, 117, 108, 101, 32, 110, 101, 119, 116, 121, 112, 101, 32, 111, 102, 32, 116, 104, 101, 110, 32, 119, 104, 101, 114, 101]))], none⟩,
   ⟨(some 0), .mv (.t 1), none⟩] [0])
 .ret)), [.tmp 0], 2⟩
theorem h_words : compFn Tryd.prog k_words 43 = some c_words := by kernel_rfl
/-- damask/lexis.isWord -/
abbrev f_isWord : FuncId := 55
def k_isWord : Tab := [(0, [], [0]), (1, [], [2])]
def c_isWord : AFn := ⟨(.seq (.reg [⟨(some 2), .mv (.c (.bool false)), none⟩] [0])
 (.seq (.reg [⟨(some 3), .call (.f 43) [], none⟩,
   ⟨(some 4), .mv (.t 0), none⟩,
   ⟨(some 5), .call (.f 72) [(.t 3), (.t 4)], none⟩,
   ⟨(some 2), .mv (.t 5), none⟩] [2])
 .ret)), [.tmp 2], 6⟩
theorem h_isWord : compFn Tryd.prog k_isWord 55 = some c_isWord := by kernel_rfl
/-- damask/lexis.isName -/
abbrev f_isName : FuncId := 31
def k_isName : Tab := [(0, [], [0]), (1, [], [0, 26]), (2, [], [2]), (3, [], [0, 28, 29]), (4, [], [0, 28, 29, 30]), (5, [], [0, 3, 28, 29]), (6, [], [0, 28, 29, 36]), (7, [], [2]), (8, [], [0, 28, 29]), (9, [], [2]), (999999, [26, 30, 36], [])]
def l_isName_0 : ACode := (.seq (.reg [⟨(some 30), .bin .lss (.t 29) (.t 28), none⟩] [0, 28, 29, 30])
 (.seq (.cond (.t 30) true
   .skip
   (.exit 0))
 (.seq (.block 1 (.seq (.reg [⟨(some 31), .mv (.t 29), none⟩,
     ⟨(some 3), .mv (.t 31), none⟩] [0, 3, 28, 29])
   (.seq (.reg [⟨(some 32), .mv (.t 0), none⟩,
     ⟨(some 33), .mv (.t 3), none⟩,
     ⟨(some 34), .ixS (.t 32) (.t 33), none⟩,
     ⟨(some 35), .call (.f 53) [(.t 34)], none⟩,
     ⟨(some 36), .not (.t 35), none⟩] [0, 28, 29, 36])
   (.cond (.t 36) true
    (.seq (.reg [⟨(some 2), .mv (.c (.bool false)), none⟩] [2])
    .ret)
    .skip))))
 (.reg [⟨(some 37), .bin .add (.t 29) (.c (.int .i64 1)), none⟩,
  ⟨(some 29), .mv (.t 37), none⟩] [0, 28, 29]))))
def c_isName : AFn := ⟨(.seq (.reg [⟨(some 2), .mv (.c (.bool false)), none⟩] [0])
 (.seq (.seq (.reg [⟨(some 4), .mv (.t 0), none⟩,
    ⟨(some 5), .bin .eql (.t 4) (.c (.str [])), none⟩,
    ⟨(some 6), .mv (.t 5), none⟩,
    ⟨(some 7), .mv (.t 0), (some (6, false))⟩,
    ⟨(some 8), .lenS (.t 7), (some (6, false))⟩,
    ⟨(some 9), .bin .gtr (.t 8) (.c (.int .i64 16)), (some (6, false))⟩,
    ⟨(some 10), .pick (.t 6) (.c (.bool true)) (.t 9), none⟩,
    ⟨(some 11), .mv (.t 10), none⟩,
    ⟨(some 12), .mv (.t 0), (some (11, false))⟩,
    ⟨(some 13), .ixS (.t 12) (.c (.int .i64 0)), (some (11, false))⟩,
    ⟨(some 14), .call (.f 32) [(.t 13)], (some (11, false))⟩,
    ⟨(some 15), .not (.t 14), (some (11, false))⟩,
    ⟨(some 16), .mv (.t 15), (some (11, false))⟩,
    ⟨(some 17), .mv (.t 0), (some (16, true))⟩,
    ⟨(some 18), .ixS (.t 17) (.c (.int .i64 0)), (some (16, true))⟩,
    ⟨(some 19), .call (.f 36) [(.t 18)], (some (16, true))⟩,
    ⟨(some 20), .not (.t 19), (some (16, true))⟩,
    ⟨(some 21), .pick (.t 16) (.t 20) (.c (.bool false)), (some (11, false))⟩,
    ⟨(some 22), .pick (.t 11) (.c (.bool true)) (.t 21), none⟩,
    ⟨(some 23), .mv (.t 22), none⟩,
    ⟨(some 24), .mv (.t 0), (some (23, false))⟩,
    ⟨(some 25), .call (.f 55) [(.t 24)], (some (23, false))⟩,
    ⟨(some 26), .pick (.t 23) (.c (.bool true)) (.t 25), none⟩] [0, 26])
  (.cond (.t 26) true
   (.seq (.reg [⟨(some 2), .mv (.c (.bool false)), none⟩] [2])
   .ret)
   .skip))
 (.seq (.seq (.reg [⟨(some 27), .mv (.t 0), none⟩,
    ⟨(some 28), .lenS (.t 27), none⟩,
    ⟨(some 29), .mv (.c (.int .i64 0)), none⟩] [0, 28, 29])
  (.block 0 (.loop l_isName_0)))
 (.seq (.reg [⟨(some 2), .mv (.c (.bool true)), none⟩] [2])
 .ret)))), [.tmp 2], 38⟩
theorem h_isName : compFn Tryd.prog k_isName 31 = some c_isName := by kernel_rfl
/-- damask/lexis.IsSmall -/
abbrev f_IsSmall : FuncId := 13
def k_IsSmall : Tab := [(0, [], [0]), (1, [], [2])]
def c_IsSmall : AFn := ⟨(.seq (.reg [⟨(some 2), .mv (.c (.bool false)), none⟩] [0])
 (.seq (.reg [⟨(some 3), .mv (.t 0), none⟩,
   ⟨(some 4), .call (.f 31) [(.t 3)], none⟩,
   ⟨(some 5), .mv (.t 4), none⟩,
   ⟨(some 6), .mv (.t 0), (some (5, true))⟩,
   ⟨(some 7), .ixS (.t 6) (.c (.int .i64 0)), (some (5, true))⟩,
   ⟨(some 8), .call (.f 32) [(.t 7)], (some (5, true))⟩,
   ⟨(some 9), .pick (.t 5) (.t 8) (.c (.bool false)), none⟩,
   ⟨(some 2), .mv (.t 9), none⟩] [2])
 .ret)), [.tmp 2], 10⟩
theorem h_IsSmall : compFn Tryd.prog k_IsSmall 13 = some c_IsSmall := by kernel_rfl
/-- damask/lexis.IsCapital -/
abbrev f_IsCapital : FuncId := 15
def k_IsCapital : Tab := [(0, [], [0]), (1, [], [2])]
def c_IsCapital : AFn := ⟨(.seq (.reg [⟨(some 2), .mv (.c (.bool false)), none⟩] [0])
 (.seq (.reg [⟨(some 3), .mv (.t 0), none⟩,
   ⟨(some 4), .call (.f 31) [(.t 3)], none⟩,
   ⟨(some 5), .mv (.t 4), none⟩,
   ⟨(some 6), .mv (.t 0), (some (5, true))⟩,
   ⟨(some 7), .ixS (.t 6) (.c (.int .i64 0)), (some (5, true))⟩,
   ⟨(some 8), .call (.f 36) [(.t 7)], (some (5, true))⟩,
   ⟨(some 9), .pick (.t 5) (.t 8) (.c (.bool false)), none⟩,
   ⟨(some 2), .mv (.t 9), none⟩] [2])
 .ret)), [.tmp 2], 10⟩
theorem h_IsCapital : compFn Tryd.prog k_IsCapital 15 = some c_IsCapital := by kernel_rfl
/-- damask/lexis.IsOp -/
abbrev f_IsOp : FuncId := 17
def k_IsOp : Tab := [(0, [], [0]), (1, [], [0, 18]), (2, [], [2]), (3, [], [0, 20, 21]), (4, [], [0, 20, 21, 22]), (5, [], [0, 3, 20, 21]), (6, [], [0, 20, 21, 28]), (7, [], [2]), (8, [], [0, 20, 21]), (9, [], [2]), (999999, [18, 22, 28], [])]
def l_IsOp_0 : ACode := (.seq (.reg [⟨(some 22), .bin .lss (.t 21) (.t 20), none⟩] [0, 20, 21, 22])
 (.seq (.cond (.t 22) true
   .skip
   (.exit 0))
 (.seq (.block 1 (.seq (.reg [⟨(some 23), .mv (.t 21), none⟩,
     ⟨(some 3), .mv (.t 23), none⟩] [0, 3, 20, 21])
   (.seq (.reg [⟨(some 24), .mv (.t 0), none⟩,
     ⟨(some 25), .mv (.t 3), none⟩,
     ⟨(some 26), .ixS (.t 24) (.t 25), none⟩,
     ⟨(some 27), .call (.f 40) [(.t 26)], none⟩,
     ⟨(some 28), .not (.t 27), none⟩] [0, 20, 21, 28])
   (.cond (.t 28) true
    (.seq (.reg [⟨(some 2), .mv (.c (.bool false)), none⟩] [2])
    .ret)
    .skip))))
 (.reg [⟨(some 29), .bin .add (.t 21) (.c (.int .i64 1)), none⟩,
  ⟨(some 21), .mv (.t 29), none⟩] [0, 20, 21]))))
def c_IsOp : AFn := ⟨(.seq (.reg [⟨(some 2), .mv (.c (.bool false)), none⟩] [0])
 (.seq (.seq (.reg [⟨(some 4), .mv (.t 0), none⟩,
    ⟨(some 5), .bin .eql (.t 4) (.c (.str [])), none⟩,
    ⟨(some 6), .mv (.t 5), none⟩,
    ⟨(some 7), .mv (.t 0), (some (6, false))⟩,
    ⟨(some 8), .lenS (.t 7), (some (6, false))⟩,
    ⟨(some 9), .bin .gtr (.t 8) (.c (.int .i64 16)), (some (6, false))⟩,
    ⟨(some 10), .pick (.t 6) (.c (.bool true)) (.t 9), none⟩,
    ⟨(some 11), .mv (.t 10), none⟩,
    ⟨(some 12), .mv (.t 0), (some (11, false))⟩,
    ⟨(some 13), .call (.f 38) [(.t 12)], (some (11, false))⟩,
    ⟨(some 14), .pick (.t 11) (.c (.bool true)) (.t 13), none⟩,
    ⟨(some 15), .mv (.t 14), none⟩,
    ⟨(some 16), .mv (.t 0), (some (15, false))⟩,
    ⟨(some 17), .call (.f 39) [(.t 16), (.c (.str [45, 45]))], (some (15, false))⟩,
    ⟨(some 18), .pick (.t 15) (.c (.bool true)) (.t 17), none⟩] [0, 18])
  (.cond (.t 18) true
   (.seq (.reg [⟨(some 2), .mv (.c (.bool false)), none⟩] [2])
   .ret)
   .skip))
 (.seq (.seq (.reg [⟨(some 19), .mv (.t 0), none⟩,
    ⟨(some 20), .lenS (.t 19), none⟩,
    ⟨(some 21), .mv (.c (.int .i64 0)), none⟩] [0, 20, 21])
  (.block 0 (.loop l_IsOp_0)))
 (.seq (.reg [⟨(some 2), .mv (.c (.bool true)), none⟩] [2])
 .ret)))), [.tmp 2], 30⟩
theorem h_IsOp : compFn Tryd.prog k_IsOp 17 = some c_IsOp := by kernel_rfl
/-- damask/lexis.Words -/
abbrev f_Words : FuncId := 20
def k_Words : Tab := [(0, [], []), (1, [], [0])]
def c_Words : AFn := ⟨(.seq (.reg [⟨(some 0), .mv (.c (.sl [] .full)), none⟩] [])
 (.seq (.reg [⟨(some 1), .call (.f 43) [], none⟩,
   ⟨(some 2), .call (.f 42) [(.t 1)], none⟩,
   ⟨(some 0), .mv (.t 2), none⟩] [0])
 .ret)), [.tmp 0], 3⟩
theorem h_Words : compFn Tryd.prog k_Words 20 = some c_Words := by kernel_rfl
/-- damask/lexis.number -/
abbrev f_number : FuncId := 57
def k_number : Tab := [(0, [], [0]), (1, [], [0, 3, 4]), (2, [], [2])]
def c_number : AFn := ⟨(.seq (.reg [⟨(some 2), .mv (.c (.bool false)), none⟩] [0])
 (.seq (.reg [⟨(some 6), .mv (.t 0), none⟩,
   ⟨(some 7), .call (.f 73) [(.t 6)], none⟩,
   ⟨(some 5), .mv (.t 7), none⟩,
   ⟨(some 8), .ext (.t 5) 0, none⟩,
   ⟨(some 9), .ext (.t 5) 1, none⟩,
   ⟨(some 3), .mv (.t 8), none⟩,
   ⟨(some 4), .mv (.t 9), none⟩] [0, 3, 4])
 (.seq (.reg [⟨(some 10), .mv (.t 4), none⟩,
   ⟨(some 11), .isnil false .iface (.t 10), none⟩,
   ⟨(some 12), .mv (.t 11), none⟩,
   ⟨(some 13), .mv (.t 3), (some (12, true))⟩,
   ⟨(some 14), .bin .geq (.t 13) (.c (.int .i64 0)), (some (12, true))⟩,
   ⟨(some 15), .pick (.t 12) (.t 14) (.c (.bool false)), none⟩,
   ⟨(some 16), .mv (.t 15), none⟩,
   ⟨(some 17), .mv (.t 3), (some (16, true))⟩,
   ⟨(some 18), .call (.f 74) [(.t 17)], (some (16, true))⟩,
   ⟨(some 19), .mv (.t 0), (some (16, true))⟩,
   ⟨(some 20), .bin .eql (.t 18) (.t 19), (some (16, true))⟩,
   ⟨(some 21), .pick (.t 16) (.t 20) (.c (.bool false)), none⟩,
   ⟨(some 2), .mv (.t 21), none⟩] [2])
 .ret))), [.tmp 2], 22⟩
theorem h_number : compFn Tryd.prog k_number 57 = some c_number := by kernel_rfl
/-- (*damask/lexis.source).span -/
abbrev f_span : FuncId := 54
def k_span : Tab := [(0, [], [0, 1, 2]), (1, [], [0, 1, 2, 7]), (2, [], [0, 1, 2, 7, 25]), (3, [], [0, 1, 2, 7]), (4, [], [6]), (999999, [25], [])]
def l_span_0 : ACode := (.seq (.seq (.reg [⟨(some 9), .mv (.t 7), none⟩,
    ⟨(some 10), .mv (.t 0), none⟩,
    ⟨(some 11), .nilck (.t 10), none⟩,
    ⟨(some 12), .faddr 0 (.t 11), none⟩,
    ⟨(some 13), .load none (.t 12), none⟩,
    ⟨(some 14), .lenS (.t 13), none⟩,
    ⟨(some 15), .bin .lss (.t 9) (.t 14), none⟩,
    ⟨(some 16), .mv (.t 15), none⟩,
    ⟨(some 17), .mv (.t 2), (some (16, true))⟩,
    ⟨(some 18), .mv (.t 0), (some (16, true))⟩,
    ⟨(some 19), .nilck (.t 18), (some (16, true))⟩,
    ⟨(some 20), .faddr 0 (.t 19), (some (16, true))⟩,
    ⟨(some 21), .load none (.t 20), (some (16, true))⟩,
    ⟨(some 22), .mv (.t 7), (some (16, true))⟩,
    ⟨(some 23), .ixS (.t 21) (.t 22), (some (16, true))⟩,
    ⟨(some 24), .call (.t 17) [(.t 23)], (some (16, true))⟩,
    ⟨(some 25), .pick (.t 16) (.t 24) (.c (.bool false)), none⟩] [0, 1, 2, 7, 25])
  (.cond (.t 25) true
   .skip
   (.exit 0)))
 (.block 1 (.reg [⟨(some 26), .mv (.t 7), none⟩,
   ⟨(some 27), .bin .add (.t 26) (.c (.int .i64 1)), none⟩,
   ⟨(some 7), .mv (.t 27), none⟩] [0, 1, 2, 7])))
def c_span : AFn := ⟨(.seq (.reg [⟨(some 6), .mv (.c (.str [])), none⟩] [0, 1, 2])
 (.seq (.reg [⟨(some 8), .mv (.t 1), none⟩,
   ⟨(some 7), .mv (.t 8), none⟩] [0, 1, 2, 7])
 (.seq (.block 0 (.loop l_span_0))
 (.seq (.reg [⟨(some 28), .mv (.t 0), none⟩,
   ⟨(some 29), .nilck (.t 28), none⟩,
   ⟨(some 30), .faddr 0 (.t 29), none⟩,
   ⟨(some 31), .load none (.t 30), none⟩,
   ⟨(some 32), .mv (.t 1), none⟩,
   ⟨(some 33), .mv (.t 7), none⟩,
   ⟨(some 34), .slS (.t 31) (some (.t 32)) (some (.t 33)), none⟩,
   ⟨(some 6), .mv (.t 34), none⟩] [6])
 .ret)))), [.tmp 6], 35⟩
theorem h_span : compFn Tryd.prog k_span 54 = some c_span := by kernel_rfl
/-- (*damask/lexis.source).blanks -/
abbrev f_blanks : FuncId := 26
def k_blanks : Tab := [(0, [0, 1, 2, 3, 4, 5, 6, 7, 8, 9], [0, 13]), (1, [0, 1, 2, 3, 4, 5, 6, 7, 8, 9], [0, 2]), (2, [], [0, 23]), (3, [], [0]), (4, [0, 1, 2, 3, 4, 5, 6, 7, 8, 9, 10], [0, 45]), (5, [0, 1, 2, 3, 4, 5, 6, 7, 8, 9, 10], [0, 3]), (6, [], [0, 3, 67]), (7, [], []), (8, [], [0]), (999999, [13, 67, 45, 23], [])]
def l_blanks_0 : ACode := (.seq (.seq (.dreg [⟨⟨(some 4), .mv (.t 0), none⟩, []⟩,
    ⟨⟨(some 5), .nilck (.t 4), none⟩, []⟩,
    ⟨⟨(some 6), .faddr 1 (.t 5), none⟩, []⟩,
    ⟨⟨(some 7), .load none (.t 6), none⟩, []⟩,
    ⟨⟨(some 8), .mv (.t 0), none⟩, []⟩,
    ⟨⟨(some 9), .nilck (.t 8), none⟩, []⟩,
    ⟨⟨(some 10), .faddr 0 (.t 9), none⟩, []⟩,
    ⟨⟨(some 11), .load none (.t 10), none⟩, []⟩,
    ⟨⟨(some 12), .lenS (.t 11), none⟩, []⟩,
    ⟨⟨(some 13), .bin .lss (.t 7) (.t 12), none⟩, []⟩] [0, 13])
  (.cond (.t 13) true
   .skip
   (.exit 0)))
 (.block 1 (.seq (.dreg [⟨⟨(some 14), .mv (.t 0), none⟩, []⟩,
    ⟨⟨(some 15), .nilck (.t 14), none⟩, []⟩,
    ⟨⟨(some 16), .faddr 0 (.t 15), none⟩, []⟩,
    ⟨⟨(some 17), .load none (.t 16), none⟩, []⟩,
    ⟨⟨(some 18), .mv (.t 0), none⟩, []⟩,
    ⟨⟨(some 19), .nilck (.t 18), none⟩, []⟩,
    ⟨⟨(some 20), .faddr 1 (.t 19), none⟩, []⟩,
    ⟨⟨(some 21), .load none (.t 20), none⟩, []⟩,
    ⟨⟨(some 22), .ixS (.t 17) (.t 21), none⟩, []⟩,
    ⟨⟨(some 2), .mv (.t 22), none⟩, []⟩] [0, 2])
  (.block 2 (.seq (.reg [⟨(some 24), .mv (.t 2), none⟩,
     ⟨(some 25), .bin .eql (.t 24) (.c (.int .u8 32)), none⟩,
     ⟨(some 26), .mv (.t 25), none⟩,
     ⟨(some 27), .mv (.t 2), (some (26, false))⟩,
     ⟨(some 28), .bin .eql (.t 27) (.c (.int .u8 9)), (some (26, false))⟩,
     ⟨(some 29), .pick (.t 26) (.c (.bool true)) (.t 28), none⟩,
     ⟨(some 30), .mv (.t 29), none⟩,
     ⟨(some 31), .mv (.t 2), (some (30, false))⟩,
     ⟨(some 32), .bin .eql (.t 31) (.c (.int .u8 10)), (some (30, false))⟩,
     ⟨(some 33), .pick (.t 30) (.c (.bool true)) (.t 32), none⟩,
     ⟨(some 34), .mv (.t 33), none⟩,
     ⟨(some 35), .mv (.t 2), (some (34, false))⟩,
     ⟨(some 36), .bin .eql (.t 35) (.c (.int .u8 13)), (some (34, false))⟩,
     ⟨(some 37), .pick (.t 34) (.c (.bool true)) (.t 36), none⟩,
     ⟨(some 23), .mv (.t 37), none⟩] [0, 23])
   (.cond (.t 23) true
    (.reg [⟨(some 38), .mv (.t 0), none⟩,
     ⟨(some 39), .nilck (.t 38), none⟩,
     ⟨(some 40), .faddr 1 (.t 39), none⟩,
     ⟨(some 41), .load none (.t 40), none⟩,
     ⟨(some 42), .bin .add (.t 41) (.c (.int .i64 1)), none⟩,
     ⟨(some 43), .nilck (.t 38), none⟩,
     ⟨(some 44), .faddr 1 (.t 43), none⟩,
     ⟨none, .store 1 (.t 44) (.t 42), none⟩] [0])
    (.seq (.dreg [⟨⟨(some 46), .mv (.t 0), none⟩, []⟩,
      ⟨⟨(some 47), .nilck (.t 46), none⟩, []⟩,
      ⟨⟨(some 48), .faddr 0 (.t 47), none⟩, []⟩,
      ⟨⟨(some 49), .load none (.t 48), none⟩, []⟩,
      ⟨⟨(some 50), .mv (.t 0), none⟩, []⟩,
      ⟨⟨(some 51), .nilck (.t 50), none⟩, []⟩,
      ⟨⟨(some 52), .faddr 1 (.t 51), none⟩, []⟩,
      ⟨⟨(some 53), .load none (.t 52), none⟩, []⟩,
      ⟨⟨(some 54), .slS (.t 49) (some (.t 53)) none, none⟩, []⟩,
      ⟨⟨(some 55), .call (.f 39) [(.t 54), (.c (.str [45, 45]))], none⟩, []⟩,
      ⟨⟨(some 45), .mv (.t 55), none⟩, []⟩] [0, 45])
    (.cond (.t 45) true
     (.seq (.dreg [⟨⟨(some 56), .mv (.t 0), none⟩, []⟩,
       ⟨⟨(some 57), .nilck (.t 56), none⟩, []⟩,
       ⟨⟨(some 58), .faddr 0 (.t 57), none⟩, []⟩,
       ⟨⟨(some 59), .load none (.t 58), none⟩, []⟩,
       ⟨⟨(some 60), .mv (.t 0), none⟩, []⟩,
       ⟨⟨(some 61), .nilck (.t 60), none⟩, []⟩,
       ⟨⟨(some 62), .faddr 1 (.t 61), none⟩, []⟩,
       ⟨⟨(some 63), .load none (.t 62), none⟩, []⟩,
       ⟨⟨(some 64), .slS (.t 59) (some (.t 63)) none, none⟩, []⟩,
       ⟨⟨(some 65), .call (.f 51) [(.t 64), (.c (.int .u8 10))], none⟩, []⟩,
       ⟨⟨(some 3), .mv (.t 65), none⟩, []⟩] [0, 3])
     (.seq (.seq (.reg [⟨(some 66), .mv (.t 3), none⟩,
        ⟨(some 67), .bin .lss (.t 66) (.c (.int .i64 0)), none⟩] [0, 3, 67])
      (.cond (.t 67) true
       (.seq (.reg [⟨(some 68), .mv (.t 0), none⟩,
         ⟨(some 69), .mv (.t 0), none⟩,
         ⟨(some 70), .nilck (.t 69), none⟩,
         ⟨(some 71), .faddr 0 (.t 70), none⟩,
         ⟨(some 72), .load none (.t 71), none⟩,
         ⟨(some 73), .lenS (.t 72), none⟩,
         ⟨(some 74), .nilck (.t 68), none⟩,
         ⟨(some 75), .faddr 1 (.t 74), none⟩,
         ⟨none, .store 1 (.t 75) (.t 73), none⟩] [])
       (.exit 0))
       .skip))
     (.reg [⟨(some 76), .mv (.t 0), none⟩,
      ⟨(some 77), .nilck (.t 76), none⟩,
      ⟨(some 78), .faddr 1 (.t 77), none⟩,
      ⟨(some 79), .load none (.t 78), none⟩,
      ⟨(some 80), .mv (.t 3), none⟩,
      ⟨(some 81), .bin .add (.t 79) (.t 80), none⟩,
      ⟨(some 82), .nilck (.t 76), none⟩,
      ⟨(some 83), .faddr 1 (.t 82), none⟩,
      ⟨none, .store 1 (.t 83) (.t 81), none⟩] [0])))
     (.exit 0)))))))))
def c_blanks : AFn := ⟨(.scope (.seq (.label 0)
  (.block 0 (.loop l_blanks_0)))), [], 84⟩
theorem h_blanks : compFn Tryd.prog k_blanks 26 = some c_blanks := by kernel_rfl
/-- (*damask/lexis.source).token -/
abbrev f_token : FuncId := 27
def k_token : Tab := [(0, [], [1, 2]), (1, [0, 1, 2, 3, 4, 5, 6, 7, 8, 9], [1, 2, 4]), (2, [], [1, 2, 4, 5]), (3, [], [1, 2, 4, 5, 6]), (4, [0, 1, 2, 3, 4, 5, 6, 7, 8, 9, 10], [1, 2, 4, 5, 6, 29]), (5, [0, 1, 2, 3, 4, 5, 6, 7, 8, 9, 10], [1, 2, 4, 5, 6]), (6, [], [1, 2, 4, 5, 6, 40]), (7, [0, 1, 2, 3, 4, 5, 6, 7, 8, 9, 10, 11, 12, 13, 14, 15, 16, 17, 18, 19], [2, 3]), (8, [], [1, 2, 4, 5, 6, 62]), (9, [], [2, 3]), (10, [], [1, 2, 4, 5, 74]), (11, [], [2, 3]), (12, [], [1, 2, 4, 5, 85]), (13, [0, 1, 2, 3, 4, 5, 6], [2, 4, 5, 7]), (14, [], [2, 4, 5, 7, 94]), (15, [], [2, 3]), (16, [], [2, 4, 5, 7, 102]), (17, [], [2, 3]), (18, [], [2, 4, 5, 7, 110]), (19, [], [2, 3]), (20, [], [2, 5, 7, 118]), (21, [], [2, 3]), (22, [], [2, 3]), (23, [], [1, 2, 5, 131]), (24, [0, 1, 2, 3, 4, 5, 6], [2, 5, 8]), (25, [], [2, 5, 8, 140]), (26, [], [2, 3]), (27, [], [2, 5, 8, 148]), (28, [], [2, 3]), (29, [], [2, 3]), (999999, [29, 118, 110, 102, 94, 148, 140, 131, 85, 74, 62, 40], [])]
def c_token : AFn := ⟨(.seq (.reg [⟨(some 1), .box (.t 0), none⟩,
   ⟨(some 2), .alloc [(.int .i64 0), (.str []), (.int .i64 0)], none⟩,
   ⟨(some 3), .mv (.c (.bool false)), none⟩] [1, 2])
 (.seq (.dreg [⟨⟨(some 9), .load none (.t 1), none⟩, []⟩,
   ⟨⟨(some 10), .nilck (.t 9), none⟩, []⟩,
   ⟨⟨(some 11), .faddr 0 (.t 10), none⟩, []⟩,
   ⟨⟨(some 12), .load none (.t 11), none⟩, []⟩,
   ⟨⟨(some 13), .load none (.t 1), none⟩, []⟩,
   ⟨⟨(some 14), .nilck (.t 13), none⟩, []⟩,
   ⟨⟨(some 15), .faddr 1 (.t 14), none⟩, []⟩,
   ⟨⟨(some 16), .load none (.t 15), none⟩, []⟩,
   ⟨⟨(some 17), .ixS (.t 12) (.t 16), none⟩, []⟩,
   ⟨⟨(some 4), .mv (.t 17), none⟩, []⟩] [1, 2, 4])
 (.seq (.reg [⟨(some 18), .mkfn (.func 52) [] [(.t 1)], none⟩,
   ⟨(some 5), .mv (.t 18), none⟩] [1, 2, 4, 5])
 (.seq (.reg [⟨(some 6), .mv (.c (.int .u8 0)), none⟩] [1, 2, 4, 5, 6])
 (.seq (.seq (.dreg [⟨⟨(some 19), .load none (.t 1), none⟩, []⟩,
    ⟨⟨(some 20), .nilck (.t 19), none⟩, []⟩,
    ⟨⟨(some 21), .faddr 1 (.t 20), none⟩, []⟩,
    ⟨⟨(some 22), .load none (.t 21), none⟩, []⟩,
    ⟨⟨(some 23), .bin .add (.t 22) (.c (.int .i64 1)), none⟩, []⟩,
    ⟨⟨(some 24), .load none (.t 1), none⟩, []⟩,
    ⟨⟨(some 25), .nilck (.t 24), none⟩, []⟩,
    ⟨⟨(some 26), .faddr 0 (.t 25), none⟩, []⟩,
    ⟨⟨(some 27), .load none (.t 26), none⟩, []⟩,
    ⟨⟨(some 28), .lenS (.t 27), none⟩, []⟩,
    ⟨⟨(some 29), .bin .lss (.t 23) (.t 28), none⟩, []⟩] [1, 2, 4, 5, 6, 29])
  (.cond (.t 29) true
   (.dreg [⟨⟨(some 30), .load none (.t 1), none⟩, []⟩,
    ⟨⟨(some 31), .nilck (.t 30), none⟩, []⟩,
    ⟨⟨(some 32), .faddr 0 (.t 31), none⟩, []⟩,
    ⟨⟨(some 33), .load none (.t 32), none⟩, []⟩,
    ⟨⟨(some 34), .load none (.t 1), none⟩, []⟩,
    ⟨⟨(some 35), .nilck (.t 34), none⟩, []⟩,
    ⟨⟨(some 36), .faddr 1 (.t 35), none⟩, []⟩,
    ⟨⟨(some 37), .load none (.t 36), none⟩, []⟩,
    ⟨⟨(some 38), .bin .add (.t 37) (.c (.int .i64 1)), none⟩, []⟩,
    ⟨⟨(some 39), .ixS (.t 33) (.t 38), none⟩, []⟩,
    ⟨⟨(some 6), .mv (.t 39), none⟩, []⟩] [1, 2, 4, 5, 6])
   .skip))
 (.seq (.block 0 (.seq (.reg [⟨(some 41), .mv (.t 4), none⟩,
     ⟨(some 42), .call (.f 51) [(.c (.str [40, 41, 123, 125, 44, 59])), (.t 41)], none⟩,
     ⟨(some 43), .bin .geq (.t 42) (.c (.int .i64 0)), none⟩,
     ⟨(some 40), .mv (.t 43), none⟩] [1, 2, 4, 5, 6, 40])
   (.cond (.t 40) true
    (.seq (.dreg [⟨⟨(some 44), .mv (.t 5), none⟩, []⟩,
      ⟨⟨(some 45), .load none (.t 1), none⟩, []⟩,
      ⟨⟨(some 46), .nilck (.t 45), none⟩, []⟩,
      ⟨⟨(some 47), .faddr 0 (.t 46), none⟩, []⟩,
      ⟨⟨(some 48), .load none (.t 47), none⟩, []⟩,
      ⟨⟨(some 49), .load none (.t 1), none⟩, []⟩,
      ⟨⟨(some 50), .nilck (.t 49), none⟩, []⟩,
      ⟨⟨(some 51), .faddr 1 (.t 50), none⟩, []⟩,
      ⟨⟨(some 52), .load none (.t 51), none⟩, []⟩,
      ⟨⟨(some 53), .load none (.t 1), none⟩, []⟩,
      ⟨⟨(some 54), .nilck (.t 53), none⟩, []⟩,
      ⟨⟨(some 55), .faddr 1 (.t 54), none⟩, []⟩,
      ⟨⟨(some 56), .load none (.t 55), none⟩, []⟩,
      ⟨⟨(some 57), .bin .add (.t 56) (.c (.int .i64 1)), none⟩, []⟩,
      ⟨⟨(some 58), .slS (.t 48) (some (.t 52)) (some (.t 57)), none⟩, []⟩,
      ⟨⟨(some 59), .call (.t 44) [(.c (.int .i64 5)), (.t 58)], none⟩, []⟩,
      ⟨⟨(some 60), .ext (.t 59) 0, none⟩, []⟩,
      ⟨⟨(some 61), .ext (.t 59) 1, none⟩, []⟩,
      ⟨⟨none, .store 3 (.t 2) (.t 60), none⟩, []⟩,
      ⟨⟨(some 3), .mv (.t 61), none⟩, []⟩] [2, 3])
    .ret)
    (.seq (.reg [⟨(some 63), .mv (.t 4), none⟩,
      ⟨(some 64), .bin .eql (.t 63) (.c (.int .u8 95)), none⟩,
      ⟨(some 65), .mv (.t 64), none⟩,
      ⟨(some 66), .mv (.t 6), (some (65, true))⟩,
      ⟨(some 67), .call (.f 53) [(.t 66)], (some (65, true))⟩,
      ⟨(some 68), .not (.t 67), (some (65, true))⟩,
      ⟨(some 69), .pick (.t 65) (.t 68) (.c (.bool false)), none⟩,
      ⟨(some 62), .mv (.t 69), none⟩] [1, 2, 4, 5, 6, 62])
    (.cond (.t 62) true
     (.seq (.reg [⟨(some 70), .mv (.t 5), none⟩,
       ⟨(some 71), .call (.t 70) [(.c (.int .i64 5)), (.c (.str [95]))], none⟩,
       ⟨(some 72), .ext (.t 71) 0, none⟩,
       ⟨(some 73), .ext (.t 71) 1, none⟩,
       ⟨none, .store 3 (.t 2) (.t 72), none⟩,
       ⟨(some 3), .mv (.t 73), none⟩] [2, 3])
     .ret)
     (.seq (.reg [⟨(some 75), .mv (.t 4), none⟩,
       ⟨(some 76), .bin .eql (.t 75) (.c (.int .u8 39)), none⟩,
       ⟨(some 77), .mv (.t 76), none⟩,
       ⟨(some 78), .mv (.t 6), (some (77, true))⟩,
       ⟨(some 79), .call (.f 36) [(.t 78)], (some (77, true))⟩,
       ⟨(some 80), .pick (.t 77) (.t 79) (.c (.bool false)), none⟩,
       ⟨(some 74), .mv (.t 80), none⟩] [1, 2, 4, 5, 74])
     (.cond (.t 74) true
      (.seq (.reg [⟨(some 81), .mv (.t 5), none⟩,
        ⟨(some 82), .call (.t 81) [(.c (.int .i64 5)), (.c (.str [39]))], none⟩,
        ⟨(some 83), .ext (.t 82) 0, none⟩,
        ⟨(some 84), .ext (.t 82) 1, none⟩,
        ⟨none, .store 3 (.t 2) (.t 83), none⟩,
        ⟨(some 3), .mv (.t 84), none⟩] [2, 3])
      .ret)
      (.seq (.reg [⟨(some 86), .mv (.t 4), none⟩,
        ⟨(some 87), .call (.f 53) [(.t 86)], none⟩,
        ⟨(some 85), .mv (.t 87), none⟩] [1, 2, 4, 5, 85])
      (.cond (.t 85) true
       (.seq (.dreg [⟨⟨(some 88), .load none (.t 1), none⟩, []⟩,
         ⟨⟨(some 89), .load none (.t 1), none⟩, []⟩,
         ⟨⟨(some 90), .nilck (.t 89), none⟩, []⟩,
         ⟨⟨(some 91), .faddr 1 (.t 90), none⟩, []⟩,
         ⟨⟨(some 92), .load none (.t 91), none⟩, []⟩,
         ⟨⟨(some 93), .call (.f 54) [(.t 88), (.t 92), (.f 53)], none⟩, []⟩,
         ⟨⟨(some 7), .mv (.t 93), none⟩, []⟩] [2, 4, 5, 7])
       (.seq (.block 1 (.seq (.reg [⟨(some 95), .mv (.t 7), none⟩,
           ⟨(some 96), .call (.f 55) [(.t 95)], none⟩,
           ⟨(some 94), .mv (.t 96), none⟩] [2, 4, 5, 7, 94])
         (.cond (.t 94) true
          (.seq (.reg [⟨(some 97), .mv (.t 5), none⟩,
            ⟨(some 98), .mv (.t 7), none⟩,
            ⟨(some 99), .call (.t 97) [(.c (.int .i64 6)), (.t 98)], none⟩,
            ⟨(some 100), .ext (.t 99) 0, none⟩,
            ⟨(some 101), .ext (.t 99) 1, none⟩,
            ⟨none, .store 3 (.t 2) (.t 100), none⟩,
            ⟨(some 3), .mv (.t 101), none⟩] [2, 3])
          .ret)
          (.seq (.reg [⟨(some 103), .mv (.t 7), none⟩,
            ⟨(some 104), .call (.f 13) [(.t 103)], none⟩,
            ⟨(some 102), .mv (.t 104), none⟩] [2, 4, 5, 7, 102])
          (.cond (.t 102) true
           (.seq (.reg [⟨(some 105), .mv (.t 5), none⟩,
             ⟨(some 106), .mv (.t 7), none⟩,
             ⟨(some 107), .call (.t 105) [(.c (.int .i64 1)), (.t 106)], none⟩,
             ⟨(some 108), .ext (.t 107) 0, none⟩,
             ⟨(some 109), .ext (.t 107) 1, none⟩,
             ⟨none, .store 3 (.t 2) (.t 108), none⟩,
             ⟨(some 3), .mv (.t 109), none⟩] [2, 3])
           .ret)
           (.seq (.reg [⟨(some 111), .mv (.t 7), none⟩,
             ⟨(some 112), .call (.f 15) [(.t 111)], none⟩,
             ⟨(some 110), .mv (.t 112), none⟩] [2, 4, 5, 7, 110])
           (.cond (.t 110) true
            (.seq (.reg [⟨(some 113), .mv (.t 5), none⟩,
              ⟨(some 114), .mv (.t 7), none⟩,
              ⟨(some 115), .call (.t 113) [(.c (.int .i64 2)), (.t 114)], none⟩,
              ⟨(some 116), .ext (.t 115) 0, none⟩,
              ⟨(some 117), .ext (.t 115) 1, none⟩,
              ⟨none, .store 3 (.t 2) (.t 116), none⟩,
              ⟨(some 3), .mv (.t 117), none⟩] [2, 3])
            .ret)
            (.seq (.reg [⟨(some 119), .mv (.t 4), none⟩,
              ⟨(some 120), .call (.f 56) [(.t 119)], none⟩,
              ⟨(some 121), .mv (.t 120), none⟩,
              ⟨(some 122), .mv (.t 7), (some (121, true))⟩,
              ⟨(some 123), .call (.f 57) [(.t 122)], (some (121, true))⟩,
              ⟨(some 124), .pick (.t 121) (.t 123) (.c (.bool false)), none⟩,
              ⟨(some 118), .mv (.t 124), none⟩] [2, 5, 7, 118])
            (.cond (.t 118) true
             (.seq (.reg [⟨(some 125), .mv (.t 5), none⟩,
               ⟨(some 126), .mv (.t 7), none⟩,
               ⟨(some 127), .call (.t 125) [(.c (.int .i64 4)), (.t 126)], none⟩,
               ⟨(some 128), .ext (.t 127) 0, none⟩,
               ⟨(some 129), .ext (.t 127) 1, none⟩,
               ⟨none, .store 3 (.t 2) (.t 128), none⟩,
               ⟨(some 3), .mv (.t 129), none⟩] [2, 3])
             .ret)
             .skip)))))))))
       (.seq (.reg [⟨(some 130), .build [(.int .i64 0), (.str []), (.int .i64 0)] [], none⟩,
         ⟨none, .store 3 (.t 2) (.t 130), none⟩,
         ⟨(some 3), .mv (.c (.bool false)), none⟩] [2, 3])
       .ret)))
       (.seq (.reg [⟨(some 132), .mv (.t 4), none⟩,
         ⟨(some 133), .call (.f 40) [(.t 132)], none⟩,
         ⟨(some 131), .mv (.t 133), none⟩] [1, 2, 5, 131])
       (.cond (.t 131) true
        (.seq (.dreg [⟨⟨(some 134), .load none (.t 1), none⟩, []⟩,
          ⟨⟨(some 135), .load none (.t 1), none⟩, []⟩,
          ⟨⟨(some 136), .nilck (.t 135), none⟩, []⟩,
          ⟨⟨(some 137), .faddr 1 (.t 136), none⟩, []⟩,
          ⟨⟨(some 138), .load none (.t 137), none⟩, []⟩,
          ⟨⟨(some 139), .call (.f 54) [(.t 134), (.t 138), (.f 40)], none⟩, []⟩,
          ⟨⟨(some 8), .mv (.t 139), none⟩, []⟩] [2, 5, 8])
        (.block 2 (.seq (.reg [⟨(some 141), .mv (.t 8), none⟩,
           ⟨(some 142), .call (.f 38) [(.t 141)], none⟩,
           ⟨(some 140), .mv (.t 142), none⟩] [2, 5, 8, 140])
         (.cond (.t 140) true
          (.seq (.reg [⟨(some 143), .mv (.t 5), none⟩,
            ⟨(some 144), .mv (.t 8), none⟩,
            ⟨(some 145), .call (.t 143) [(.c (.int .i64 5)), (.t 144)], none⟩,
            ⟨(some 146), .ext (.t 145) 0, none⟩,
            ⟨(some 147), .ext (.t 145) 1, none⟩,
            ⟨none, .store 3 (.t 2) (.t 146), none⟩,
            ⟨(some 3), .mv (.t 147), none⟩] [2, 3])
          .ret)
          (.seq (.reg [⟨(some 149), .mv (.t 8), none⟩,
            ⟨(some 150), .call (.f 17) [(.t 149)], none⟩,
            ⟨(some 148), .mv (.t 150), none⟩] [2, 5, 8, 148])
          (.cond (.t 148) true
           (.seq (.reg [⟨(some 151), .mv (.t 5), none⟩,
             ⟨(some 152), .mv (.t 8), none⟩,
             ⟨(some 153), .call (.t 151) [(.c (.int .i64 3)), (.t 152)], none⟩,
             ⟨(some 154), .ext (.t 153) 0, none⟩,
             ⟨(some 155), .ext (.t 153) 1, none⟩,
             ⟨none, .store 3 (.t 2) (.t 154), none⟩,
             ⟨(some 3), .mv (.t 155), none⟩] [2, 3])
           .ret)
           .skip))))))
        .skip)))))))))))
 (.seq (.reg [⟨(some 156), .build [(.int .i64 0), (.str []), (.int .i64 0)] [], none⟩,
   ⟨none, .store 3 (.t 2) (.t 156), none⟩,
   ⟨(some 3), .mv (.c (.bool false)), none⟩] [2, 3])
 .ret))))))), [.cell (some 3) 2, .tmp 3], 157⟩
theorem h_token : compFn Tryd.prog k_token 27 = some c_token := by kernel_rfl
/-- (*damask/lexis.source).token$1 -/
abbrev f_made : FuncId := 52
def k_made : Tab := [(0, [], [0, 1, 2, 5]), (1, [], [5, 6])]
def c_made : AFn := ⟨(.seq (.reg [⟨(some 5), .alloc [(.int .i64 0), (.str []), (.int .i64 0)], none⟩,
   ⟨(some 6), .mv (.c (.bool false)), none⟩] [0, 1, 2, 5])
 (.seq (.reg [⟨(some 7), .mv (.t 0), none⟩,
   ⟨(some 8), .mv (.t 1), none⟩,
   ⟨(some 9), .load none (.t 2), none⟩,
   ⟨(some 10), .nilck (.t 9), none⟩,
   ⟨(some 11), .faddr 1 (.t 10), none⟩,
   ⟨(some 12), .load none (.t 11), none⟩,
   ⟨(some 13), .build [(.int .i64 0), (.str []), (.int .i64 0)] [(0, 1, (.t 7)), (1, 1, (.t 8)), (2, 1, (.t 12))], none⟩,
   ⟨none, .store 3 (.t 5) (.t 13), none⟩,
   ⟨(some 6), .mv (.c (.bool true)), none⟩] [5, 6])
 .ret)), [.cell (some 3) 5, .tmp 6], 14⟩
theorem h_made : compFn Tryd.prog k_made 52 = some c_made := by kernel_rfl
/-- damask/lexis.Tokens -/
abbrev f_Tokens : FuncId := 9
def k_Tokens : Tab := [(0, [], [0]), (1, [], [0, 11]), (2, [], [2, 3, 4]), (3, [], [0, 5]), (4, [], [0, 5, 6]), (5, [], [0, 5, 6]), (6, [], [0, 5, 6, 23]), (7, [], [2, 3, 4]), (8, [], [0, 5, 6, 7, 8]), (9, [], [0, 5, 6, 7, 36]), (10, [0, 1, 2, 3, 4, 5, 6], [2, 3, 4]), (11, [], [0, 5, 6, 7]), (12, [0, 1, 2, 3, 4, 5, 6, 7, 8, 9, 10], [0, 5, 6]), (999999, [11, 23, 36], [])]
def l_Tokens_0 : ACode := (.block 1 (.seq (.reg [⟨(some 15), .mv (.t 5), none⟩,
    ⟨(some 16), .call (.f 26) [(.t 15)], none⟩] [0, 5, 6])
  (.seq (.seq (.reg [⟨(some 17), .mv (.t 5), none⟩,
     ⟨(some 18), .nilck (.t 17), none⟩,
     ⟨(some 19), .faddr 1 (.t 18), none⟩,
     ⟨(some 20), .load none (.t 19), none⟩,
     ⟨(some 21), .mv (.t 0), none⟩,
     ⟨(some 22), .lenS (.t 21), none⟩,
     ⟨(some 23), .bin .eql (.t 20) (.t 22), none⟩] [0, 5, 6, 23])
   (.cond (.t 23) true
    (.seq (.reg [⟨(some 24), .mv (.t 6), none⟩,
      ⟨(some 25), .mv (.t 0), none⟩,
      ⟨(some 26), .lenS (.t 25), none⟩,
      ⟨(some 27), .build [(.int .i64 0), (.str []), (.int .i64 0)] [(0, 1, (.c (.int .i64 7))), (2, 1, (.t 26))], none⟩,
      ⟨(some 28), .bsl 3 [(.t 27)], none⟩,
      ⟨(some 29), .app 3 32 33 (.t 24) (.t 28), none⟩,
      ⟨(some 2), .mv (.t 29), none⟩,
      ⟨(some 3), .mv (.c (.int .i64 0)), none⟩,
      ⟨(some 4), .mv (.c (.int .i64 0)), none⟩] [2, 3, 4])
    .ret)
    .skip))
  (.seq (.reg [⟨(some 31), .mv (.t 5), none⟩,
    ⟨(some 32), .call (.f 27) [(.t 31)], none⟩,
    ⟨(some 30), .mv (.t 32), none⟩,
    ⟨(some 33), .ext (.t 30) 0, none⟩,
    ⟨(some 34), .ext (.t 30) 1, none⟩,
    ⟨(some 7), .alloc [(.int .i64 0), (.str []), (.int .i64 0)], none⟩,
    ⟨none, .store 3 (.t 7) (.t 33), none⟩,
    ⟨(some 8), .mv (.t 34), none⟩] [0, 5, 6, 7, 8])
  (.seq (.seq (.reg [⟨(some 35), .mv (.t 8), none⟩,
     ⟨(some 36), .not (.t 35), none⟩] [0, 5, 6, 7, 36])
   (.cond (.t 36) true
    (.seq (.dreg [⟨⟨(some 37), .mv (.t 5), none⟩, []⟩,
      ⟨⟨(some 38), .nilck (.t 37), none⟩, []⟩,
      ⟨⟨(some 39), .faddr 1 (.t 38), none⟩, []⟩,
      ⟨⟨(some 40), .load none (.t 39), none⟩, []⟩,
      ⟨⟨(some 2), .mv (.c (.sl [] .full)), none⟩, []⟩,
      ⟨⟨(some 3), .mv (.t 40), none⟩, []⟩,
      ⟨⟨(some 4), .mv (.c (.int .i64 4)), none⟩, []⟩] [2, 3, 4])
    .ret)
    .skip))
  (.seq (.reg [⟨(some 41), .mv (.t 6), none⟩,
    ⟨(some 42), .load (some 3) (.t 7), none⟩,
    ⟨(some 43), .bsl 3 [(.t 42)], none⟩,
    ⟨(some 44), .app 3 32 33 (.t 41) (.t 43), none⟩,
    ⟨(some 6), .mv (.t 44), none⟩] [0, 5, 6, 7])
  (.dreg [⟨⟨(some 45), .mv (.t 5), none⟩, []⟩,
   ⟨⟨(some 46), .nilck (.t 45), none⟩, []⟩,
   ⟨⟨(some 47), .faddr 1 (.t 46), none⟩, []⟩,
   ⟨⟨(some 48), .load none (.t 47), none⟩, []⟩,
   ⟨⟨(some 49), .faddr 1 (.t 7), none⟩, []⟩,
   ⟨⟨(some 50), .load none (.t 49), none⟩, []⟩,
   ⟨⟨(some 51), .lenS (.t 50), none⟩, []⟩,
   ⟨⟨(some 52), .bin .add (.t 48) (.t 51), none⟩, []⟩,
   ⟨⟨(some 53), .nilck (.t 45), none⟩, []⟩,
   ⟨⟨(some 54), .faddr 1 (.t 53), none⟩, []⟩,
   ⟨⟨none, .store 1 (.t 54) (.t 52), none⟩, []⟩] [0, 5, 6])))))))
def c_Tokens : AFn := ⟨(.seq (.reg [⟨(some 2), .mv (.c (.sl [] .full)), none⟩,
   ⟨(some 3), .mv (.c (.int .i64 0)), none⟩,
   ⟨(some 4), .mv (.c (.int .i64 0)), none⟩] [0])
 (.seq (.seq (.reg [⟨(some 9), .mv (.t 0), none⟩,
    ⟨(some 10), .lenS (.t 9), none⟩,
    ⟨(some 11), .bin .gtr (.t 10) (.c (.int .i64 12000)), none⟩] [0, 11])
  (.cond (.t 11) true
   (.seq (.reg [⟨(some 2), .mv (.c (.sl [] .full)), none⟩,
     ⟨(some 3), .mv (.c (.int .i64 0)), none⟩,
     ⟨(some 4), .mv (.c (.int .i64 5)), none⟩] [2, 3, 4])
   .ret)
   .skip))
 (.seq (.reg [⟨(some 12), .mv (.t 0), none⟩,
   ⟨(some 13), .build [(.str []), (.int .i64 0)] [(0, 1, (.t 12))], none⟩,
   ⟨(some 14), .box (.t 13), none⟩,
   ⟨(some 5), .mv (.t 14), none⟩] [0, 5])
 (.seq (.reg [⟨(some 6), .mv (.c (.sl [] .full)), none⟩] [0, 5, 6])
 (.block 0 (.loop l_Tokens_0)))))), [.tmp 2, .tmp 3, .tmp 4], 55⟩
theorem h_Tokens : compFn Tryd.prog k_Tokens 9 = some c_Tokens := by kernel_rfl
/-- damask/lexis.Place -/
abbrev f_Place : FuncId := 22
def k_Place : Tab := [(0, [], [0, 1]), (1, [], [0, 1, 15]), (2, [], [4, 5, 6]), (3, [], [1, 7]), (4, [], [4, 5, 6]), (999999, [15], [])]
def c_Place : AFn := ⟨(.seq (.reg [⟨(some 4), .mv (.c (.int .i64 0)), none⟩,
   ⟨(some 5), .mv (.c (.int .i64 0)), none⟩,
   ⟨(some 6), .mv (.c (.int .i64 0)), none⟩] [0, 1])
 (.seq (.seq (.reg [⟨(some 8), .mv (.t 1), none⟩,
    ⟨(some 9), .bin .lss (.t 8) (.c (.int .i64 0)), none⟩,
    ⟨(some 10), .mv (.t 9), none⟩,
    ⟨(some 11), .mv (.t 1), (some (10, false))⟩,
    ⟨(some 12), .mv (.t 0), (some (10, false))⟩,
    ⟨(some 13), .lenS (.t 12), (some (10, false))⟩,
    ⟨(some 14), .bin .gtr (.t 11) (.t 13), (some (10, false))⟩,
    ⟨(some 15), .pick (.t 10) (.c (.bool true)) (.t 14), none⟩] [0, 1, 15])
  (.cond (.t 15) true
   (.seq (.reg [⟨(some 4), .mv (.c (.int .i64 0)), none⟩,
     ⟨(some 5), .mv (.c (.int .i64 0)), none⟩,
     ⟨(some 6), .mv (.c (.int .i64 2)), none⟩] [4, 5, 6])
   .ret)
   .skip))
 (.seq (.reg [⟨(some 16), .mv (.t 0), none⟩,
   ⟨(some 17), .mv (.t 1), none⟩,
   ⟨(some 18), .slS (.t 16) none (some (.t 17)), none⟩,
   ⟨(some 7), .mv (.t 18), none⟩] [1, 7])
 (.seq (.reg [⟨(some 19), .mv (.t 7), none⟩,
   ⟨(some 20), .call (.f 44) [(.t 19), (.c (.str [10]))], none⟩,
   ⟨(some 21), .bin .add (.c (.int .i64 1)) (.t 20), none⟩,
   ⟨(some 22), .mv (.t 1), none⟩,
   ⟨(some 23), .mv (.t 7), none⟩,
   ⟨(some 24), .call (.f 45) [(.t 23), (.c (.int .u8 10))], none⟩,
   ⟨(some 25), .bin .sub (.t 22) (.t 24), none⟩,
   ⟨(some 4), .mv (.t 21), none⟩,
   ⟨(some 5), .mv (.t 25), none⟩,
   ⟨(some 6), .mv (.c (.int .i64 0)), none⟩] [4, 5, 6])
 .ret)))), [.tmp 4, .tmp 5, .tmp 6], 26⟩
theorem h_Place : compFn Tryd.prog k_Place 22 = some c_Place := by kernel_rfl
/-- damask/lexis.isSign -/
abbrev f_isSign : FuncId := 68
def k_isSign : Tab := [(0, [], [0]), (1, [], [2])]
def c_isSign : AFn := ⟨(.seq (.reg [⟨(some 2), .mv (.c (.bool false)), none⟩] [0])
 (.seq (.reg [⟨(some 3), .mv (.t 0), none⟩,
   ⟨(some 4), .call (.f 38) [(.t 3)], none⟩,
   ⟨(some 5), .mv (.t 4), none⟩,
   ⟨(some 6), .mv (.t 0), (some (5, false))⟩,
   ⟨(some 7), .lenS (.t 6), (some (5, false))⟩,
   ⟨(some 8), .bin .eql (.t 7) (.c (.int .i64 1)), (some (5, false))⟩,
   ⟨(some 9), .mv (.t 8), (some (5, false))⟩,
   ⟨(some 10), .mv (.t 0), (some (9, true))⟩,
   ⟨(some 11), .call (.f 79) [(.c (.str [40, 41, 123, 125, 44, 59, 95, 39])), (.t 10)], (some (9, true))⟩,
   ⟨(some 12), .pick (.t 9) (.t 11) (.c (.bool false)), (some (5, false))⟩,
   ⟨(some 13), .pick (.t 5) (.c (.bool true)) (.t 12), none⟩,
   ⟨(some 2), .mv (.t 13), none⟩] [2])
 .ret)), [.tmp 2], 14⟩
theorem h_isSign : compFn Tryd.prog k_isSign 68 = some c_isSign := by kernel_rfl
/-- damask/lexis.isToken -/
abbrev f_isToken : FuncId := 46
def k_isToken : Tab := [(0, [], [1]), (1, [], [1, 4]), (2, [], [1, 4, 5]), (3, [], [2]), (4, [], [1, 4, 10]), (5, [], [2]), (6, [], [1, 4, 15]), (7, [], [2]), (8, [], [1, 4, 20]), (9, [], [2]), (10, [], [1, 4, 25]), (11, [], [2]), (12, [], [1, 30]), (13, [], [2]), (14, [], [2]), (999999, [30, 25, 20, 15, 10, 5], [])]
def c_isToken : AFn := ⟨(.seq (.reg [⟨(some 1), .box (.t 0), none⟩,
   ⟨(some 2), .mv (.c (.bool false)), none⟩] [1])
 (.seq (.seq (.reg [⟨(some 3), .faddr 0 (.t 1), none⟩,
    ⟨(some 4), .load none (.t 3), none⟩] [1, 4])
  (.block 0 (.seq (.reg [⟨(some 6), .bin .eql (.t 4) (.c (.int .i64 1)), none⟩,
     ⟨(some 5), .mv (.t 6), none⟩] [1, 4, 5])
   (.cond (.t 5) true
    (.seq (.reg [⟨(some 7), .faddr 1 (.t 1), none⟩,
      ⟨(some 8), .load none (.t 7), none⟩,
      ⟨(some 9), .call (.f 13) [(.t 8)], none⟩,
      ⟨(some 2), .mv (.t 9), none⟩] [2])
    .ret)
    (.seq (.reg [⟨(some 11), .bin .eql (.t 4) (.c (.int .i64 2)), none⟩,
      ⟨(some 10), .mv (.t 11), none⟩] [1, 4, 10])
    (.cond (.t 10) true
     (.seq (.reg [⟨(some 12), .faddr 1 (.t 1), none⟩,
       ⟨(some 13), .load none (.t 12), none⟩,
       ⟨(some 14), .call (.f 15) [(.t 13)], none⟩,
       ⟨(some 2), .mv (.t 14), none⟩] [2])
     .ret)
     (.seq (.reg [⟨(some 16), .bin .eql (.t 4) (.c (.int .i64 3)), none⟩,
       ⟨(some 15), .mv (.t 16), none⟩] [1, 4, 15])
     (.cond (.t 15) true
      (.seq (.reg [⟨(some 17), .faddr 1 (.t 1), none⟩,
        ⟨(some 18), .load none (.t 17), none⟩,
        ⟨(some 19), .call (.f 17) [(.t 18)], none⟩,
        ⟨(some 2), .mv (.t 19), none⟩] [2])
      .ret)
      (.seq (.reg [⟨(some 21), .bin .eql (.t 4) (.c (.int .i64 4)), none⟩,
        ⟨(some 20), .mv (.t 21), none⟩] [1, 4, 20])
      (.cond (.t 20) true
       (.seq (.reg [⟨(some 22), .faddr 1 (.t 1), none⟩,
         ⟨(some 23), .load none (.t 22), none⟩,
         ⟨(some 24), .call (.f 57) [(.t 23)], none⟩,
         ⟨(some 2), .mv (.t 24), none⟩] [2])
       .ret)
       (.seq (.reg [⟨(some 26), .bin .eql (.t 4) (.c (.int .i64 5)), none⟩,
         ⟨(some 25), .mv (.t 26), none⟩] [1, 4, 25])
       (.cond (.t 25) true
        (.seq (.reg [⟨(some 27), .faddr 1 (.t 1), none⟩,
          ⟨(some 28), .load none (.t 27), none⟩,
          ⟨(some 29), .call (.f 68) [(.t 28)], none⟩,
          ⟨(some 2), .mv (.t 29), none⟩] [2])
        .ret)
        (.seq (.reg [⟨(some 31), .bin .eql (.t 4) (.c (.int .i64 6)), none⟩,
          ⟨(some 30), .mv (.t 31), none⟩] [1, 30])
        (.cond (.t 30) true
         (.seq (.reg [⟨(some 32), .faddr 1 (.t 1), none⟩,
           ⟨(some 33), .load none (.t 32), none⟩,
           ⟨(some 34), .call (.f 55) [(.t 33)], none⟩,
           ⟨(some 2), .mv (.t 34), none⟩] [2])
         .ret)
         .skip))))))))))))))
 (.seq (.reg [⟨(some 35), .faddr 0 (.t 1), none⟩,
   ⟨(some 36), .load none (.t 35), none⟩,
   ⟨(some 37), .bin .eql (.t 36) (.c (.int .i64 7)), none⟩,
   ⟨(some 38), .mv (.t 37), none⟩,
   ⟨(some 39), .faddr 1 (.t 1), (some (38, true))⟩,
   ⟨(some 40), .load none (.t 39), (some (38, true))⟩,
   ⟨(some 41), .bin .eql (.t 40) (.c (.str [])), (some (38, true))⟩,
   ⟨(some 42), .pick (.t 38) (.t 41) (.c (.bool false)), none⟩,
   ⟨(some 2), .mv (.t 42), none⟩] [2])
 .ret))), [.tmp 2], 43⟩
theorem h_isToken : compFn Tryd.prog k_isToken 46 = some c_isToken := by kernel_rfl
/-- damask/lexis.Join -/
abbrev f_Join : FuncId := 24
def k_Join : Tab := [(0, [], [0]), (1, [], [0, 4]), (2, [], [0, 4, 5]), (3, [], [4, 5, 8, 9, 10]), (4, [], [4, 5, 8, 9, 10, 11]), (5, [], [4, 5, 7, 8, 9, 10]), (6, [], [4, 5, 7, 8, 9, 10, 16]), (7, [], [2, 3]), (8, [], [4, 5, 7, 8, 9, 10, 19]), (9, [], [4, 7, 8, 9, 10, 21]), (10, [], [4, 7, 8, 9, 10]), (11, [], [4, 7, 8, 9, 10]), (12, [], [4, 5, 8, 9, 10]), (13, [], [4, 5, 8, 9, 10]), (14, [], [2, 3]), (999999, [11, 16, 19, 21], [])]
def l_Join_0 : ACode := (.seq (.reg [⟨(some 11), .bin .lss (.t 10) (.t 9), none⟩] [4, 5, 8, 9, 10, 11])
 (.seq (.cond (.t 11) true
   .skip
   (.exit 0))
 (.seq (.block 1 (.seq (.reg [⟨(some 12), .iaddr 3 (.t 8) (.t 10), none⟩,
     ⟨(some 13), .load (some 3) (.t 12), none⟩,
     ⟨(some 7), .alloc [(.int .i64 0), (.str []), (.int .i64 0)], none⟩,
     ⟨none, .store 3 (.t 7) (.t 13), none⟩] [4, 5, 7, 8, 9, 10])
   (.seq (.seq (.reg [⟨(some 14), .load (some 3) (.t 7), none⟩,
      ⟨(some 15), .call (.f 46) [(.t 14)], none⟩,
      ⟨(some 16), .not (.t 15), none⟩] [4, 5, 7, 8, 9, 10, 16])
    (.cond (.t 16) true
     (.seq (.reg [⟨(some 2), .mv (.c (.str [])), none⟩,
       ⟨(some 3), .mv (.c (.int .i64 2)), none⟩] [2, 3])
     .ret)
     .skip))
   (.seq (.seq (.reg [⟨(some 17), .faddr 0 (.t 7), none⟩,
      ⟨(some 18), .load none (.t 17), none⟩,
      ⟨(some 19), .bin .eql (.t 18) (.c (.int .i64 7)), none⟩] [4, 5, 7, 8, 9, 10, 19])
    (.cond (.t 19) true
     (.exit 1)
     .skip))
   (.seq (.seq (.reg [⟨(some 20), .mv (.t 5), none⟩,
      ⟨(some 21), .not (.t 20), none⟩] [4, 7, 8, 9, 10, 21])
    (.cond (.t 21) true
     (.reg [⟨(some 22), .call (.f 47) [(.t 4), (.c (.int .u8 32))], none⟩] [4, 7, 8, 9, 10])
     .skip))
   (.seq (.reg [⟨(some 23), .faddr 1 (.t 7), none⟩,
     ⟨(some 24), .load none (.t 23), none⟩,
     ⟨(some 25), .call (.f 48) [(.t 4), (.t 24)], none⟩] [4, 7, 8, 9, 10])
   (.reg [⟨(some 26), .faddr 0 (.t 7), none⟩,
    ⟨(some 27), .load none (.t 26), none⟩,
    ⟨(some 28), .bin .eql (.t 27) (.c (.int .i64 5)), none⟩,
    ⟨(some 29), .mv (.t 28), none⟩,
    ⟨(some 30), .faddr 1 (.t 7), (some (29, true))⟩,
    ⟨(some 31), .load none (.t 30), (some (29, true))⟩,
    ⟨(some 32), .bin .eql (.t 31) (.c (.str [39])), (some (29, true))⟩,
    ⟨(some 33), .pick (.t 29) (.t 32) (.c (.bool false)), none⟩,
    ⟨(some 5), .mv (.t 33), none⟩] [4, 5, 8, 9, 10])))))))
 (.reg [⟨(some 34), .bin .add (.t 10) (.c (.int .i64 1)), none⟩,
  ⟨(some 10), .mv (.t 34), none⟩] [4, 5, 8, 9, 10]))))
def c_Join : AFn := ⟨(.seq (.reg [⟨(some 2), .mv (.c (.str [])), none⟩,
   ⟨(some 3), .mv (.c (.int .i64 0)), none⟩] [0])
 (.seq (.reg [⟨(some 4), .allocT 65 [.nilptr, (.sl [] .nil)], none⟩] [0, 4])
 (.seq (.reg [⟨(some 5), .mv (.c (.bool true)), none⟩] [0, 4, 5])
 (.seq (.seq (.reg [⟨(some 8), .mv (.t 0), none⟩,
    ⟨(some 9), .lenL (.t 8), none⟩,
    ⟨(some 10), .mv (.c (.int .i64 0)), none⟩] [4, 5, 8, 9, 10])
  (.block 0 (.loop l_Join_0)))
 (.seq (.reg [⟨(some 35), .call (.f 49) [(.t 4)], none⟩,
   ⟨(some 2), .mv (.t 35), none⟩,
   ⟨(some 3), .mv (.c (.int .i64 0)), none⟩] [2, 3])
 .ret))))), [.tmp 2, .tmp 3], 36⟩
theorem h_Join : compFn Tryd.prog k_Join 24 = some c_Join := by kernel_rfl
/-- damask/damaskref01.Tokens -/
abbrev f_rTokens : FuncId := 10
def k_rTokens : Tab := [(0, [], [0]), (1, [], [0, 11]), (2, [], [2, 3, 4]), (3, [], [0, 5]), (4, [], [0, 5, 6]), (5, [], [0, 5, 6, 15]), (6, [], [0, 5, 6, 16]), (7, [], [0, 5, 6]), (8, [], [0, 5, 6, 41]), (9, [], [0, 5, 6, 58]), (10, [], [0, 5, 6]), (11, [], [0, 5, 6, 7, 8]), (12, [], [0, 5, 6, 7, 68]), (13, [], [2, 3, 4]), (14, [], [0, 5, 6, 7]), (15, [], [0, 5, 6]), (16, [], [2, 3, 4]), (999999, [11, 15, 58, 41, 16, 68], [])]
def l_rTokens_0 : ACode := (.seq (.seq (.reg [⟨(some 49), .mv (.t 6), none⟩,
    ⟨(some 50), .mv (.t 0), none⟩,
    ⟨(some 51), .lenS (.t 50), none⟩,
    ⟨(some 52), .bin .lss (.t 49) (.t 51), none⟩,
    ⟨(some 53), .mv (.t 52), none⟩,
    ⟨(some 54), .mv (.t 0), (some (53, true))⟩,
    ⟨(some 55), .mv (.t 6), (some (53, true))⟩,
    ⟨(some 56), .ixS (.t 54) (.t 55), (some (53, true))⟩,
    ⟨(some 57), .bin .neq (.t 56) (.c (.int .u8 10)), (some (53, true))⟩,
    ⟨(some 58), .pick (.t 53) (.t 57) (.c (.bool false)), none⟩] [0, 5, 6, 58])
  (.cond (.t 58) true
   .skip
   (.exit 3)))
 (.block 4 (.reg [⟨(some 59), .mv (.t 6), none⟩,
   ⟨(some 60), .bin .add (.t 59) (.c (.int .i64 1)), none⟩,
   ⟨(some 6), .mv (.t 60), none⟩] [0, 5, 6])))
def l_rTokens_1 : ACode := (.seq (.seq (.reg [⟨(some 12), .mv (.t 6), none⟩,
    ⟨(some 13), .mv (.t 0), none⟩,
    ⟨(some 14), .lenS (.t 13), none⟩,
    ⟨(some 15), .bin .lss (.t 12) (.t 14), none⟩] [0, 5, 6, 15])
  (.cond (.t 15) true
   .skip
   (.exit 0)))
 (.block 1 (.seq (.block 2 (.seq (.reg [⟨(some 17), .mv (.t 0), none⟩,
      ⟨(some 18), .mv (.t 6), none⟩,
      ⟨(some 19), .ixS (.t 17) (.t 18), none⟩,
      ⟨(some 20), .bin .eql (.t 19) (.c (.int .u8 32)), none⟩,
      ⟨(some 21), .mv (.t 20), none⟩,
      ⟨(some 22), .mv (.t 0), (some (21, false))⟩,
      ⟨(some 23), .mv (.t 6), (some (21, false))⟩,
      ⟨(some 24), .ixS (.t 22) (.t 23), (some (21, false))⟩,
      ⟨(some 25), .bin .eql (.t 24) (.c (.int .u8 9)), (some (21, false))⟩,
      ⟨(some 26), .pick (.t 21) (.c (.bool true)) (.t 25), none⟩,
      ⟨(some 27), .mv (.t 26), none⟩,
      ⟨(some 28), .mv (.t 0), (some (27, false))⟩,
      ⟨(some 29), .mv (.t 6), (some (27, false))⟩,
      ⟨(some 30), .ixS (.t 28) (.t 29), (some (27, false))⟩,
      ⟨(some 31), .bin .eql (.t 30) (.c (.int .u8 10)), (some (27, false))⟩,
      ⟨(some 32), .pick (.t 27) (.c (.bool true)) (.t 31), none⟩,
      ⟨(some 33), .mv (.t 32), none⟩,
      ⟨(some 34), .mv (.t 0), (some (33, false))⟩,
      ⟨(some 35), .mv (.t 6), (some (33, false))⟩,
      ⟨(some 36), .ixS (.t 34) (.t 35), (some (33, false))⟩,
      ⟨(some 37), .bin .eql (.t 36) (.c (.int .u8 13)), (some (33, false))⟩,
      ⟨(some 38), .pick (.t 33) (.c (.bool true)) (.t 37), none⟩,
      ⟨(some 16), .mv (.t 38), none⟩] [0, 5, 6, 16])
    (.cond (.t 16) true
     (.seq (.reg [⟨(some 39), .mv (.t 6), none⟩,
       ⟨(some 40), .bin .add (.t 39) (.c (.int .i64 1)), none⟩,
       ⟨(some 6), .mv (.t 40), none⟩] [0, 5, 6])
     (.exit 1))
     (.seq (.reg [⟨(some 42), .mv (.t 0), none⟩,
       ⟨(some 43), .mv (.t 6), none⟩,
       ⟨(some 44), .mv (.t 0), none⟩,
       ⟨(some 45), .mv (.t 6), none⟩,
       ⟨(some 46), .call (.f 29) [(.t 44), (.t 45), (.c (.bool true))], none⟩,
       ⟨(some 47), .slS (.t 42) (some (.t 43)) (some (.t 46)), none⟩,
       ⟨(some 48), .call (.f 28) [(.t 47)], none⟩,
       ⟨(some 41), .mv (.t 48), none⟩] [0, 5, 6, 41])
     (.cond (.t 41) true
      (.seq (.block 3 (.loop l_rTokens_0))
      (.exit 1))
      .skip)))))
  (.seq (.reg [⟨(some 62), .mv (.t 0), none⟩,
    ⟨(some 63), .mv (.t 6), none⟩,
    ⟨(some 64), .call (.f 30) [(.t 62), (.t 63)], none⟩,
    ⟨(some 61), .mv (.t 64), none⟩,
    ⟨(some 65), .ext (.t 61) 0, none⟩,
    ⟨(some 66), .ext (.t 61) 1, none⟩,
    ⟨(some 7), .alloc [(.int .i64 0), (.str []), (.int .i64 0)], none⟩,
    ⟨none, .store 3 (.t 7) (.t 65), none⟩,
    ⟨(some 8), .mv (.t 66), none⟩] [0, 5, 6, 7, 8])
  (.seq (.seq (.reg [⟨(some 67), .mv (.t 8), none⟩,
     ⟨(some 68), .not (.t 67), none⟩] [0, 5, 6, 7, 68])
   (.cond (.t 68) true
    (.seq (.reg [⟨(some 69), .mv (.t 6), none⟩,
      ⟨(some 2), .mv (.c (.sl [] .full)), none⟩,
      ⟨(some 3), .mv (.t 69), none⟩,
      ⟨(some 4), .mv (.c (.int .i64 4)), none⟩] [2, 3, 4])
    .ret)
    .skip))
  (.seq (.reg [⟨(some 70), .mv (.t 5), none⟩,
    ⟨(some 71), .load (some 3) (.t 7), none⟩,
    ⟨(some 72), .bsl 3 [(.t 71)], none⟩,
    ⟨(some 73), .app 3 32 33 (.t 70) (.t 72), none⟩,
    ⟨(some 5), .mv (.t 73), none⟩] [0, 5, 6, 7])
  (.reg [⟨(some 74), .mv (.t 6), none⟩,
   ⟨(some 75), .faddr 1 (.t 7), none⟩,
   ⟨(some 76), .load none (.t 75), none⟩,
   ⟨(some 77), .lenS (.t 76), none⟩,
   ⟨(some 78), .bin .add (.t 74) (.t 77), none⟩,
   ⟨(some 6), .mv (.t 78), none⟩] [0, 5, 6])))))))
def c_rTokens : AFn := ⟨(.seq (.reg [⟨(some 2), .mv (.c (.sl [] .full)), none⟩,
   ⟨(some 3), .mv (.c (.int .i64 0)), none⟩,
   ⟨(some 4), .mv (.c (.int .i64 0)), none⟩] [0])
 (.seq (.seq (.reg [⟨(some 9), .mv (.t 0), none⟩,
    ⟨(some 10), .lenS (.t 9), none⟩,
    ⟨(some 11), .bin .gtr (.t 10) (.c (.int .i64 12000)), none⟩] [0, 11])
  (.cond (.t 11) true
   (.seq (.reg [⟨(some 2), .mv (.c (.sl [] .full)), none⟩,
     ⟨(some 3), .mv (.c (.int .i64 0)), none⟩,
     ⟨(some 4), .mv (.c (.int .i64 5)), none⟩] [2, 3, 4])
   .ret)
   .skip))
 (.seq (.reg [⟨(some 5), .mv (.c (.sl [] .full)), none⟩] [0, 5])
 (.seq (.seq (.reg [⟨(some 6), .mv (.c (.int .i64 0)), none⟩] [0, 5, 6])
  (.block 0 (.loop l_rTokens_1)))
 (.seq (.reg [⟨(some 79), .mv (.t 5), none⟩,
   ⟨(some 80), .mv (.t 0), none⟩,
   ⟨(some 81), .lenS (.t 80), none⟩,
   ⟨(some 82), .build [(.int .i64 0), (.str []), (.int .i64 0)] [(0, 1, (.c (.int .i64 7))), (2, 1, (.t 81))], none⟩,
   ⟨(some 83), .bsl 3 [(.t 82)], none⟩,
   ⟨(some 84), .app 3 32 33 (.t 79) (.t 83), none⟩,
   ⟨(some 2), .mv (.t 84), none⟩,
   ⟨(some 3), .mv (.c (.int .i64 0)), none⟩,
   ⟨(some 4), .mv (.c (.int .i64 0)), none⟩] [2, 3, 4])
 .ret))))), [.tmp 2, .tmp 3, .tmp 4], 85⟩
theorem h_rTokens : compFn Tryd.prog k_rTokens 10 = some c_rTokens := by kernel_rfl
/-- damask/damaskref01.Same -/
abbrev f_rSame : FuncId := 11
def k_rSame : Tab := [(0, [], [0, 1, 2]), (1, [], [0, 1, 2, 12]), (2, [], [6]), (3, [], [0, 1, 2, 14, 15]), (4, [], [0, 1, 2, 14, 15, 16]), (5, [], [0, 1, 2, 7, 14, 15]), (6, [0, 1, 2, 3, 4, 5, 6, 7, 8, 9, 10, 11, 12, 13, 14, 15, 16, 17, 18, 19, 20, 21, 22, 23, 24, 25, 26, 27, 28, 29, 30, 31, 32, 33, 34, 35, 36, 37, 38, 39], [0, 1, 2, 14, 15, 57]), (7, [], [6]), (8, [], [0, 1, 2, 14, 15]), (9, [], [6]), (999999, [12, 16, 57], [])]
def l_rSame_0 : ACode := (.seq (.reg [⟨(some 16), .bin .lss (.t 15) (.t 14), none⟩] [0, 1, 2, 14, 15, 16])
 (.seq (.cond (.t 16) true
   .skip
   (.exit 0))
 (.seq (.block 1 (.seq (.reg [⟨(some 17), .mv (.t 15), none⟩,
     ⟨(some 7), .mv (.t 17), none⟩] [0, 1, 2, 7, 14, 15])
   (.seq (.dreg [⟨⟨(some 18), .mv (.t 0), none⟩, []⟩,
     ⟨⟨(some 19), .mv (.t 7), none⟩, []⟩,
     ⟨⟨(some 20), .iaddr 3 (.t 18) (.t 19), none⟩, []⟩,
     ⟨⟨(some 21), .faddr 0 (.t 20), none⟩, []⟩,
     ⟨⟨(some 22), .load none (.t 21), none⟩, []⟩,
     ⟨⟨(some 23), .mv (.t 1), none⟩, []⟩,
     ⟨⟨(some 24), .mv (.t 7), none⟩, []⟩,
     ⟨⟨(some 25), .iaddr 3 (.t 23) (.t 24), none⟩, []⟩,
     ⟨⟨(some 26), .faddr 0 (.t 25), none⟩, []⟩,
     ⟨⟨(some 27), .load none (.t 26), none⟩, []⟩,
     ⟨⟨(some 28), .bin .neq (.t 22) (.t 27), none⟩, []⟩,
     ⟨⟨(some 29), .mv (.t 28), none⟩, []⟩,
     ⟨⟨(some 30), .mv (.t 0), (some (29, false))⟩, []⟩,
     ⟨⟨(some 31), .mv (.t 7), (some (29, false))⟩, []⟩,
     ⟨⟨(some 32), .iaddr 3 (.t 30) (.t 31), (some (29, false))⟩, []⟩,
     ⟨⟨(some 33), .faddr 1 (.t 32), (some (29, false))⟩, []⟩,
     ⟨⟨(some 34), .load none (.t 33), (some (29, false))⟩, []⟩,
     ⟨⟨(some 35), .mv (.t 1), (some (29, false))⟩, []⟩,
     ⟨⟨(some 36), .mv (.t 7), (some (29, false))⟩, []⟩,
     ⟨⟨(some 37), .iaddr 3 (.t 35) (.t 36), (some (29, false))⟩, []⟩,
     ⟨⟨(some 38), .faddr 1 (.t 37), (some (29, false))⟩, []⟩,
     ⟨⟨(some 39), .load none (.t 38), (some (29, false))⟩, []⟩,
     ⟨⟨(some 40), .bin .neq (.t 34) (.t 39), (some (29, false))⟩, []⟩,
     ⟨⟨(some 41), .pick (.t 29) (.c (.bool true)) (.t 40), none⟩, []⟩,
     ⟨⟨(some 42), .mv (.t 41), none⟩, []⟩,
     ⟨⟨(some 43), .mv (.t 2), (some (42, false))⟩, []⟩,
     ⟨⟨(some 44), .mv (.t 43), (some (42, false))⟩, []⟩,
     ⟨⟨(some 45), .mv (.t 0), (some (44, true))⟩, []⟩,
     ⟨⟨(some 46), .mv (.t 7), (some (44, true))⟩, []⟩,
     ⟨⟨(some 47), .iaddr 3 (.t 45) (.t 46), (some (44, true))⟩, []⟩,
     ⟨⟨(some 48), .faddr 2 (.t 47), (some (44, true))⟩, []⟩,
     ⟨⟨(some 49), .load none (.t 48), (some (44, true))⟩, []⟩,
     ⟨⟨(some 50), .mv (.t 1), (some (44, true))⟩, []⟩,
     ⟨⟨(some 51), .mv (.t 7), (some (44, true))⟩, []⟩,
     ⟨⟨(some 52), .iaddr 3 (.t 50) (.t 51), (some (44, true))⟩, []⟩,
     ⟨⟨(some 53), .faddr 2 (.t 52), (some (44, true))⟩, []⟩,
     ⟨⟨(some 54), .load none (.t 53), (some (44, true))⟩, []⟩,
     ⟨⟨(some 55), .bin .neq (.t 49) (.t 54), (some (44, true))⟩, []⟩,
     ⟨⟨(some 56), .pick (.t 44) (.t 55) (.c (.bool false)), (some (42, false))⟩, []⟩,
     ⟨⟨(some 57), .pick (.t 42) (.c (.bool true)) (.t 56), none⟩, []⟩] [0, 1, 2, 14, 15, 57])
   (.cond (.t 57) true
    (.seq (.reg [⟨(some 6), .mv (.c (.bool false)), none⟩] [6])
    .ret)
    .skip))))
 (.reg [⟨(some 58), .bin .add (.t 15) (.c (.int .i64 1)), none⟩,
  ⟨(some 15), .mv (.t 58), none⟩] [0, 1, 2, 14, 15]))))
def c_rSame : AFn := ⟨(.seq (.reg [⟨(some 6), .mv (.c (.bool false)), none⟩] [0, 1, 2])
 (.seq (.seq (.reg [⟨(some 8), .mv (.t 0), none⟩,
    ⟨(some 9), .lenL (.t 8), none⟩,
    ⟨(some 10), .mv (.t 1), none⟩,
    ⟨(some 11), .lenL (.t 10), none⟩,
    ⟨(some 12), .bin .neq (.t 9) (.t 11), none⟩] [0, 1, 2, 12])
  (.cond (.t 12) true
   (.seq (.reg [⟨(some 6), .mv (.c (.bool false)), none⟩] [6])
   .ret)
   .skip))
 (.seq (.seq (.reg [⟨(some 13), .mv (.t 0), none⟩,
    ⟨(some 14), .lenL (.t 13), none⟩,
    ⟨(some 15), .mv (.c (.int .i64 0)), none⟩] [0, 1, 2, 14, 15])
  (.block 0 (.loop l_rSame_0)))
 (.seq (.reg [⟨(some 6), .mv (.c (.bool true)), none⟩] [6])
 .ret)))), [.tmp 6], 59⟩
theorem h_rSame : compFn Tryd.prog k_rSame 11 = some c_rSame := by kernel_rfl
/-- damask/damaskref01.IsSmall -/
abbrev f_rIsSmall : FuncId := 14
def k_rIsSmall : Tab := [(0, [], [0]), (1, [], [2])]
def c_rIsSmall : AFn := ⟨(.seq (.reg [⟨(some 2), .mv (.c (.bool false)), none⟩] [0])
 (.seq (.reg [⟨(some 3), .mv (.t 0), none⟩,
   ⟨(some 4), .lenS (.t 3), none⟩,
   ⟨(some 5), .bin .geq (.t 4) (.c (.int .i64 1)), none⟩,
   ⟨(some 6), .mv (.t 5), none⟩,
   ⟨(some 7), .mv (.t 0), (some (6, true))⟩,
   ⟨(some 8), .lenS (.t 7), (some (6, true))⟩,
   ⟨(some 9), .bin .leq (.t 8) (.c (.int .i64 16)), (some (6, true))⟩,
   ⟨(some 10), .pick (.t 6) (.t 9) (.c (.bool false)), none⟩,
   ⟨(some 11), .mv (.t 10), none⟩,
   ⟨(some 12), .mv (.t 0), (some (11, true))⟩,
   ⟨(some 13), .ixS (.t 12) (.c (.int .i64 0)), (some (11, true))⟩,
   ⟨(some 14), .call (.f 33) [(.t 13)], (some (11, true))⟩,
   ⟨(some 15), .pick (.t 11) (.t 14) (.c (.bool false)), none⟩,
   ⟨(some 16), .mv (.t 15), none⟩,
   ⟨(some 17), .mv (.t 0), (some (16, true))⟩,
   ⟨(some 18), .call (.f 34) [(.t 17), (.c (.bool false))], (some (16, true))⟩,
   ⟨(some 19), .pick (.t 16) (.t 18) (.c (.bool false)), none⟩,
   ⟨(some 20), .mv (.t 19), none⟩,
   ⟨(some 21), .call (.f 21) [], (some (20, true))⟩,
   ⟨(some 22), .mv (.t 0), (some (20, true))⟩,
   ⟨(some 23), .call (.f 35) [(.t 21), (.t 22)], (some (20, true))⟩,
   ⟨(some 24), .not (.t 23), (some (20, true))⟩,
   ⟨(some 25), .pick (.t 20) (.t 24) (.c (.bool false)), none⟩,
   ⟨(some 2), .mv (.t 25), none⟩] [2])
 .ret)), [.tmp 2], 26⟩
theorem h_rIsSmall : compFn Tryd.prog k_rIsSmall 14 = some c_rIsSmall := by kernel_rfl
/-- damask/damaskref01.IsCapital -/
abbrev f_rIsCapital : FuncId := 16
def k_rIsCapital : Tab := [(0, [], [0]), (1, [], [2])]
def c_rIsCapital : AFn := ⟨(.seq (.reg [⟨(some 2), .mv (.c (.bool false)), none⟩] [0])
 (.seq (.reg [⟨(some 3), .mv (.t 0), none⟩,
   ⟨(some 4), .lenS (.t 3), none⟩,
   ⟨(some 5), .bin .geq (.t 4) (.c (.int .i64 1)), none⟩,
   ⟨(some 6), .mv (.t 5), none⟩,
   ⟨(some 7), .mv (.t 0), (some (6, true))⟩,
   ⟨(some 8), .lenS (.t 7), (some (6, true))⟩,
   ⟨(some 9), .bin .leq (.t 8) (.c (.int .i64 16)), (some (6, true))⟩,
   ⟨(some 10), .pick (.t 6) (.t 9) (.c (.bool false)), none⟩,
   ⟨(some 11), .mv (.t 10), none⟩,
   ⟨(some 12), .mv (.t 0), (some (11, true))⟩,
   ⟨(some 13), .ixS (.t 12) (.c (.int .i64 0)), (some (11, true))⟩,
   ⟨(some 14), .call (.f 37) [(.t 13)], (some (11, true))⟩,
   ⟨(some 15), .pick (.t 11) (.t 14) (.c (.bool false)), none⟩,
   ⟨(some 16), .mv (.t 15), none⟩,
   ⟨(some 17), .mv (.t 0), (some (16, true))⟩,
   ⟨(some 18), .call (.f 34) [(.t 17), (.c (.bool false))], (some (16, true))⟩,
   ⟨(some 19), .pick (.t 16) (.t 18) (.c (.bool false)), none⟩,
   ⟨(some 2), .mv (.t 19), none⟩] [2])
 .ret)), [.tmp 2], 20⟩
theorem h_rIsCapital : compFn Tryd.prog k_rIsCapital 16 = some c_rIsCapital := by kernel_rfl
/-- damask/damaskref01.IsOp -/
abbrev f_rIsOp : FuncId := 18
def k_rIsOp : Tab := [(0, [], [0]), (1, [], [2])]
def c_rIsOp : AFn := ⟨(.seq (.reg [⟨(some 2), .mv (.c (.bool false)), none⟩] [0])
 (.seq (.reg [⟨(some 3), .mv (.t 0), none⟩,
   ⟨(some 4), .lenS (.t 3), none⟩,
   ⟨(some 5), .bin .geq (.t 4) (.c (.int .i64 1)), none⟩,
   ⟨(some 6), .mv (.t 5), none⟩,
   ⟨(some 7), .mv (.t 0), (some (6, true))⟩,
   ⟨(some 8), .lenS (.t 7), (some (6, true))⟩,
   ⟨(some 9), .bin .leq (.t 8) (.c (.int .i64 16)), (some (6, true))⟩,
   ⟨(some 10), .pick (.t 6) (.t 9) (.c (.bool false)), none⟩,
   ⟨(some 11), .mv (.t 10), none⟩,
   ⟨(some 12), .mv (.t 0), (some (11, true))⟩,
   ⟨(some 13), .call (.f 34) [(.t 12), (.c (.bool true))], (some (11, true))⟩,
   ⟨(some 14), .pick (.t 11) (.t 13) (.c (.bool false)), none⟩,
   ⟨(some 15), .mv (.t 14), none⟩,
   ⟨(some 16), .call (.f 41) [], (some (15, true))⟩,
   ⟨(some 17), .mv (.t 0), (some (15, true))⟩,
   ⟨(some 18), .call (.f 35) [(.t 16), (.t 17)], (some (15, true))⟩,
   ⟨(some 19), .not (.t 18), (some (15, true))⟩,
   ⟨(some 20), .pick (.t 15) (.t 19) (.c (.bool false)), none⟩,
   ⟨(some 21), .mv (.t 20), none⟩,
   ⟨(some 22), .mv (.t 0), (some (21, true))⟩,
   ⟨(some 23), .call (.f 28) [(.t 22)], (some (21, true))⟩,
   ⟨(some 24), .not (.t 23), (some (21, true))⟩,
   ⟨(some 25), .pick (.t 21) (.t 24) (.c (.bool false)), none⟩,
   ⟨(some 2), .mv (.t 25), none⟩] [2])
 .ret)), [.tmp 2], 26⟩
theorem h_rIsOp : compFn Tryd.prog k_rIsOp 18 = some c_rIsOp := by kernel_rfl
/-- damask/damaskref01.SameStrings -/
abbrev f_rSameStrings : FuncId := 19
def k_rSameStrings : Tab := [(0, [], [0, 1]), (1, [], [0, 1, 10]), (2, [], [4]), (3, [], [0, 1, 12, 13]), (4, [], [0, 1, 12, 13, 14]), (5, [], [0, 1, 5, 12, 13]), (6, [0, 1, 2, 3, 4, 5, 6, 7, 8], [0, 1, 12, 13, 24]), (7, [], [4]), (8, [], [0, 1, 12, 13]), (9, [], [4]), (999999, [10, 14, 24], [])]
def l_rSameStrings_0 : ACode := (.seq (.reg [⟨(some 14), .bin .lss (.t 13) (.t 12), none⟩] [0, 1, 12, 13, 14])
 (.seq (.cond (.t 14) true
   .skip
   (.exit 0))
 (.seq (.block 1 (.seq (.reg [⟨(some 15), .mv (.t 13), none⟩,
     ⟨(some 5), .mv (.t 15), none⟩] [0, 1, 5, 12, 13])
   (.seq (.dreg [⟨⟨(some 16), .mv (.t 0), none⟩, []⟩,
     ⟨⟨(some 17), .mv (.t 5), none⟩, []⟩,
     ⟨⟨(some 18), .iaddr 1 (.t 16) (.t 17), none⟩, []⟩,
     ⟨⟨(some 19), .load none (.t 18), none⟩, []⟩,
     ⟨⟨(some 20), .mv (.t 1), none⟩, []⟩,
     ⟨⟨(some 21), .mv (.t 5), none⟩, []⟩,
     ⟨⟨(some 22), .iaddr 1 (.t 20) (.t 21), none⟩, []⟩,
     ⟨⟨(some 23), .load none (.t 22), none⟩, []⟩,
     ⟨⟨(some 24), .bin .neq (.t 19) (.t 23), none⟩, []⟩] [0, 1, 12, 13, 24])
   (.cond (.t 24) true
    (.seq (.reg [⟨(some 4), .mv (.c (.bool false)), none⟩] [4])
    .ret)
    .skip))))
 (.reg [⟨(some 25), .bin .add (.t 13) (.c (.int .i64 1)), none⟩,
  ⟨(some 13), .mv (.t 25), none⟩] [0, 1, 12, 13]))))
def c_rSameStrings : AFn := ⟨(.seq (.reg [⟨(some 4), .mv (.c (.bool false)), none⟩] [0, 1])
 (.seq (.seq (.reg [⟨(some 6), .mv (.t 0), none⟩,
    ⟨(some 7), .lenL (.t 6), none⟩,
    ⟨(some 8), .mv (.t 1), none⟩,
    ⟨(some 9), .lenL (.t 8), none⟩,
    ⟨(some 10), .bin .neq (.t 7) (.t 9), none⟩] [0, 1, 10])
  (.cond (.t 10) true
   (.seq (.reg [⟨(some 4), .mv (.c (.bool false)), none⟩] [4])
   .ret)
   .skip))
 (.seq (.seq (.reg [⟨(some 11), .mv (.t 0), none⟩,
    ⟨(some 12), .lenL (.t 11), none⟩,
    ⟨(some 13), .mv (.c (.int .i64 0)), none⟩] [0, 1, 12, 13])
  (.block 0 (.loop l_rSameStrings_0)))
 (.seq (.reg [⟨(some 4), .mv (.c (.bool true)), none⟩] [4])
 .ret)))), [.tmp 4], 26⟩
theorem h_rSameStrings : compFn Tryd.prog k_rSameStrings 19 = some c_rSameStrings := by kernel_rfl
/-- damask/damaskref01.Words -/
abbrev f_rWords : FuncId := 21
def k_rWords : Tab := [(0, [], []), (1, [], [0])]
def c_rWords : AFn := ⟨(.seq (.reg [⟨(some 0), .mv (.c (.sl [] .full)), none⟩] [])
 (.seq (.reg [⟨(some 1), .bsl 1 [(.c (.str [99, 97, 115, 101])), (.c (.str [99, 108, 97, 115, 115])), (.c (.str [100, 97, 116, 97])), (.c (.str [100, 101, 114, 105, 118, 105, 110, 103])), (.c (.str [100, 111])), (.c (.str [101, 108, 115, 101])), (.c (.str [102, 97, 109, 105, 108, 121])), (.c (.str [102, 111, 114, 97, 108, 108])), (.c (.str [105, 102])), (.c (.str [105, 109, 112, 111, 114, 116])), (.c (.str [105, 110])), (.c (.str [105, 110, 102, 105, 120])), (.c (.str [105, 110, 102, 105, 120, 108])), (.c (.str [105, 110, 102, 105, 120, 114])), (.c (.str [105, 110, 115, 116, 97, 110, 99, 101])), (.c (.str [108, 101, 116])), (.c (.str [109, 111, 100, 117, 108, 101])), (.c (.str [110, 101, 119, 116, 121, 112, 101])), (.c (.str [111, 102])), (.c (.str [116, 104, 101, 110])), (.c (.str [119, 104, 101, 114, 101]))], none⟩,
   ⟨(some 0), .mv (.t 1), none⟩] [0])
 .ret)), [.tmp 0], 2⟩
theorem h_rWords : compFn Tryd.prog k_rWords 21 = some c_rWords := by kernel_rfl
/-- damask/damaskref01.Place -/
abbrev f_rPlace : FuncId := 23
def k_rPlace : Tab := [(0, [], [0, 1]), (1, [], [0, 1, 17]), (2, [], [4, 5, 6]), (3, [], [0, 1, 7, 8]), (4, [], [0, 7, 8, 18, 19]), (5, [], [0, 7, 8, 18, 19, 20]), (6, [], [0, 7, 8, 9, 18, 19]), (7, [], [0, 7, 8, 9, 18, 19]), (8, [], [0, 7, 8, 18, 19, 27]), (9, [], [0, 7, 18, 19]), (10, [], [0, 7, 8, 18, 19]), (11, [], [0, 7, 8, 18, 19]), (12, [], [4, 5, 6]), (999999, [17, 20, 27], [])]
def l_rPlace_0 : ACode := (.seq (.reg [⟨(some 20), .bin .lss (.t 19) (.t 18), none⟩] [0, 7, 8, 18, 19, 20])
 (.seq (.cond (.t 20) true
   .skip
   (.exit 0))
 (.seq (.block 1 (.seq (.reg [⟨(some 21), .mv (.t 19), none⟩,
     ⟨(some 9), .mv (.t 21), none⟩] [0, 7, 8, 9, 18, 19])
   (.seq (.reg [⟨(some 22), .mv (.t 8), none⟩,
     ⟨(some 23), .bin .add (.t 22) (.c (.int .i64 1)), none⟩,
     ⟨(some 8), .mv (.t 23), none⟩] [0, 7, 8, 9, 18, 19])
   (.seq (.reg [⟨(some 24), .mv (.t 0), none⟩,
     ⟨(some 25), .mv (.t 9), none⟩,
     ⟨(some 26), .ixS (.t 24) (.t 25), none⟩,
     ⟨(some 27), .bin .eql (.t 26) (.c (.int .u8 10)), none⟩] [0, 7, 8, 18, 19, 27])
   (.cond (.t 27) true
    (.seq (.reg [⟨(some 28), .mv (.t 7), none⟩,
      ⟨(some 29), .bin .add (.t 28) (.c (.int .i64 1)), none⟩,
      ⟨(some 7), .mv (.t 29), none⟩] [0, 7, 18, 19])
    (.reg [⟨(some 8), .mv (.c (.int .i64 1)), none⟩] [0, 7, 8, 18, 19]))
    .skip)))))
 (.reg [⟨(some 30), .bin .add (.t 19) (.c (.int .i64 1)), none⟩,
  ⟨(some 19), .mv (.t 30), none⟩] [0, 7, 8, 18, 19]))))
def c_rPlace : AFn := ⟨(.seq (.reg [⟨(some 4), .mv (.c (.int .i64 0)), none⟩,
   ⟨(some 5), .mv (.c (.int .i64 0)), none⟩,
   ⟨(some 6), .mv (.c (.bool false)), none⟩] [0, 1])
 (.seq (.seq (.reg [⟨(some 10), .mv (.t 1), none⟩,
    ⟨(some 11), .bin .lss (.t 10) (.c (.int .i64 0)), none⟩,
    ⟨(some 12), .mv (.t 11), none⟩,
    ⟨(some 13), .mv (.t 1), (some (12, false))⟩,
    ⟨(some 14), .mv (.t 0), (some (12, false))⟩,
    ⟨(some 15), .lenS (.t 14), (some (12, false))⟩,
    ⟨(some 16), .bin .gtr (.t 13) (.t 15), (some (12, false))⟩,
    ⟨(some 17), .pick (.t 12) (.c (.bool true)) (.t 16), none⟩] [0, 1, 17])
  (.cond (.t 17) true
   (.seq (.reg [⟨(some 4), .mv (.c (.int .i64 0)), none⟩,
     ⟨(some 5), .mv (.c (.int .i64 0)), none⟩,
     ⟨(some 6), .mv (.c (.bool false)), none⟩] [4, 5, 6])
   .ret)
   .skip))
 (.seq (.reg [⟨(some 7), .mv (.c (.int .i64 1)), none⟩,
   ⟨(some 8), .mv (.c (.int .i64 1)), none⟩] [0, 1, 7, 8])
 (.seq (.seq (.reg [⟨(some 18), .mv (.t 1), none⟩,
    ⟨(some 19), .mv (.c (.int .i64 0)), none⟩] [0, 7, 8, 18, 19])
  (.block 0 (.loop l_rPlace_0)))
 (.seq (.reg [⟨(some 31), .mv (.t 7), none⟩,
   ⟨(some 32), .mv (.t 8), none⟩,
   ⟨(some 4), .mv (.t 31), none⟩,
   ⟨(some 5), .mv (.t 32), none⟩,
   ⟨(some 6), .mv (.c (.bool true)), none⟩] [4, 5, 6])
 .ret))))), [.tmp 4, .tmp 5, .tmp 6], 33⟩
theorem h_rPlace : compFn Tryd.prog k_rPlace 23 = some c_rPlace := by kernel_rfl
/-- damask/damaskref01.Join -/
abbrev f_rJoin : FuncId := 25
def k_rJoin : Tab := [(0, [], [0]), (1, [], [0, 4]), (2, [], [0, 4, 5]), (3, [], [4, 5, 8, 9, 10]), (4, [], [4, 5, 8, 9, 10, 11]), (5, [], [4, 5, 7, 8, 9, 10]), (6, [], [4, 5, 7, 8, 9, 10, 16]), (7, [], [2, 3]), (8, [], [4, 5, 7, 8, 9, 10, 19]), (9, [], [4, 7, 8, 9, 10, 20]), (10, [], [4, 7, 8, 9, 10]), (11, [], [4, 7, 8, 9, 10]), (12, [], [4, 5, 8, 9, 10]), (13, [], [4, 5, 8, 9, 10]), (14, [], [2, 3]), (999999, [11, 16, 19, 20], [])]
def l_rJoin_0 : ACode := (.seq (.reg [⟨(some 11), .bin .lss (.t 10) (.t 9), none⟩] [4, 5, 8, 9, 10, 11])
 (.seq (.cond (.t 11) true
   .skip
   (.exit 0))
 (.seq (.block 1 (.seq (.reg [⟨(some 12), .iaddr 3 (.t 8) (.t 10), none⟩,
     ⟨(some 13), .load (some 3) (.t 12), none⟩,
     ⟨(some 7), .alloc [(.int .i64 0), (.str []), (.int .i64 0)], none⟩,
     ⟨none, .store 3 (.t 7) (.t 13), none⟩] [4, 5, 7, 8, 9, 10])
   (.seq (.seq (.reg [⟨(some 14), .load (some 3) (.t 7), none⟩,
      ⟨(some 15), .call (.f 50) [(.t 14)], none⟩,
      ⟨(some 16), .not (.t 15), none⟩] [4, 5, 7, 8, 9, 10, 16])
    (.cond (.t 16) true
     (.seq (.reg [⟨(some 2), .mv (.c (.str [])), none⟩,
       ⟨(some 3), .mv (.c (.bool false)), none⟩] [2, 3])
     .ret)
     .skip))
   (.seq (.seq (.reg [⟨(some 17), .faddr 0 (.t 7), none⟩,
      ⟨(some 18), .load none (.t 17), none⟩,
      ⟨(some 19), .bin .eql (.t 18) (.c (.int .i64 7)), none⟩] [4, 5, 7, 8, 9, 10, 19])
    (.cond (.t 19) true
     (.exit 1)
     .skip))
   (.seq (.seq (.reg [⟨(some 20), .mv (.t 5), none⟩] [4, 7, 8, 9, 10, 20])
    (.cond (.t 20) true
     (.reg [⟨(some 21), .mv (.t 4), none⟩,
      ⟨(some 22), .bin .add (.t 21) (.c (.str [32])), none⟩,
      ⟨(some 4), .mv (.t 22), none⟩] [4, 7, 8, 9, 10])
     .skip))
   (.seq (.reg [⟨(some 23), .mv (.t 4), none⟩,
     ⟨(some 24), .faddr 1 (.t 7), none⟩,
     ⟨(some 25), .load none (.t 24), none⟩,
     ⟨(some 26), .bin .add (.t 23) (.t 25), none⟩,
     ⟨(some 4), .mv (.t 26), none⟩] [4, 7, 8, 9, 10])
   (.reg [⟨(some 27), .faddr 1 (.t 7), none⟩,
    ⟨(some 28), .load none (.t 27), none⟩,
    ⟨(some 29), .bin .neq (.t 28) (.c (.str [39])), none⟩,
    ⟨(some 5), .mv (.t 29), none⟩] [4, 5, 8, 9, 10])))))))
 (.reg [⟨(some 30), .bin .add (.t 10) (.c (.int .i64 1)), none⟩,
  ⟨(some 10), .mv (.t 30), none⟩] [4, 5, 8, 9, 10]))))
def c_rJoin : AFn := ⟨(.seq (.reg [⟨(some 2), .mv (.c (.str [])), none⟩,
   ⟨(some 3), .mv (.c (.bool false)), none⟩] [0])
 (.seq (.reg [⟨(some 4), .mv (.c (.str [])), none⟩] [0, 4])
 (.seq (.reg [⟨(some 5), .mv (.c (.bool false)), none⟩] [0, 4, 5])
 (.seq (.seq (.reg [⟨(some 8), .mv (.t 0), none⟩,
    ⟨(some 9), .lenL (.t 8), none⟩,
    ⟨(some 10), .mv (.c (.int .i64 0)), none⟩] [4, 5, 8, 9, 10])
  (.block 0 (.loop l_rJoin_0)))
 (.seq (.reg [⟨(some 31), .mv (.t 4), none⟩,
   ⟨(some 2), .mv (.t 31), none⟩,
   ⟨(some 3), .mv (.c (.bool true)), none⟩] [2, 3])
 .ret))))), [.tmp 2, .tmp 3], 32⟩
theorem h_rJoin : compFn Tryd.prog k_rJoin 25 = some c_rJoin := by kernel_rfl
/-- damask/damaskref01.comment -/
abbrev f_rcomment : FuncId := 28
def k_rcomment : Tab := [(0, [], [0]), (1, [], [2])]
def c_rcomment : AFn := ⟨(.seq (.reg [⟨(some 2), .mv (.c (.bool false)), none⟩] [0])
 (.seq (.reg [⟨(some 3), .mv (.t 0), none⟩,
   ⟨(some 4), .lenS (.t 3), none⟩,
   ⟨(some 5), .bin .geq (.t 4) (.c (.int .i64 2)), none⟩,
   ⟨(some 6), .mv (.t 5), none⟩,
   ⟨(some 7), .mv (.t 0), (some (6, true))⟩,
   ⟨(some 8), .ixS (.t 7) (.c (.int .i64 0)), (some (6, true))⟩,
   ⟨(some 9), .bin .eql (.t 8) (.c (.int .u8 45)), (some (6, true))⟩,
   ⟨(some 10), .pick (.t 6) (.t 9) (.c (.bool false)), none⟩,
   ⟨(some 11), .mv (.t 10), none⟩,
   ⟨(some 12), .mv (.t 0), (some (11, true))⟩,
   ⟨(some 13), .ixS (.t 12) (.c (.int .i64 1)), (some (11, true))⟩,
   ⟨(some 14), .bin .eql (.t 13) (.c (.int .u8 45)), (some (11, true))⟩,
   ⟨(some 15), .pick (.t 11) (.t 14) (.c (.bool false)), none⟩,
   ⟨(some 2), .mv (.t 15), none⟩] [2])
 .ret)), [.tmp 2], 16⟩
theorem h_rcomment : compFn Tryd.prog k_rcomment 28 = some c_rcomment := by kernel_rfl
/-- damask/damaskref01.run -/
abbrev f_rrun : FuncId := 29
def k_rrun : Tab := [(0, [], [0, 1, 2]), (1, [], [0, 2, 7]), (2, [], [0, 2, 7, 31]), (3, [], [0, 2, 7]), (4, [], [6]), (999999, [31], [])]
def l_rrun_0 : ACode := (.seq (.seq (.reg [⟨(some 9), .mv (.t 7), none⟩,
    ⟨(some 10), .mv (.t 0), none⟩,
    ⟨(some 11), .lenS (.t 10), none⟩,
    ⟨(some 12), .bin .lss (.t 9) (.t 11), none⟩,
    ⟨(some 13), .mv (.t 12), none⟩,
    ⟨(some 14), .mv (.t 2), (some (13, true))⟩,
    ⟨(some 15), .mv (.t 14), (some (13, true))⟩,
    ⟨(some 16), .mv (.t 0), (some (15, true))⟩,
    ⟨(some 17), .mv (.t 7), (some (15, true))⟩,
    ⟨(some 18), .ixS (.t 16) (.t 17), (some (15, true))⟩,
    ⟨(some 19), .call (.f 58) [(.t 18)], (some (15, true))⟩,
    ⟨(some 20), .pick (.t 15) (.t 19) (.c (.bool false)), (some (13, true))⟩,
    ⟨(some 21), .mv (.t 20), (some (13, true))⟩,
    ⟨(some 22), .mv (.t 2), (some (21, false))⟩,
    ⟨(some 23), .not (.t 22), (some (21, false))⟩,
    ⟨(some 24), .mv (.t 23), (some (21, false))⟩,
    ⟨(some 25), .mv (.t 0), (some (24, true))⟩,
    ⟨(some 26), .mv (.t 7), (some (24, true))⟩,
    ⟨(some 27), .ixS (.t 25) (.t 26), (some (24, true))⟩,
    ⟨(some 28), .call (.f 59) [(.t 27)], (some (24, true))⟩,
    ⟨(some 29), .pick (.t 24) (.t 28) (.c (.bool false)), (some (21, false))⟩,
    ⟨(some 30), .pick (.t 21) (.c (.bool true)) (.t 29), (some (13, true))⟩,
    ⟨(some 31), .pick (.t 13) (.t 30) (.c (.bool false)), none⟩] [0, 2, 7, 31])
  (.cond (.t 31) true
   .skip
   (.exit 0)))
 (.block 1 (.reg [⟨(some 32), .mv (.t 7), none⟩,
   ⟨(some 33), .bin .add (.t 32) (.c (.int .i64 1)), none⟩,
   ⟨(some 7), .mv (.t 33), none⟩] [0, 2, 7])))
def c_rrun : AFn := ⟨(.seq (.reg [⟨(some 6), .mv (.c (.int .i64 0)), none⟩] [0, 1, 2])
 (.seq (.reg [⟨(some 8), .mv (.t 1), none⟩,
   ⟨(some 7), .mv (.t 8), none⟩] [0, 2, 7])
 (.seq (.block 0 (.loop l_rrun_0))
 (.seq (.reg [⟨(some 34), .mv (.t 7), none⟩,
   ⟨(some 6), .mv (.t 34), none⟩] [6])
 .ret)))), [.tmp 6], 35⟩
theorem h_rrun : compFn Tryd.prog k_rrun 29 = some c_rrun := by kernel_rfl
/-- damask/damaskref01.one -/
abbrev f_rone : FuncId := 30
def k_rone : Tab := [(0, [], [0, 1, 4]), (1, [], [0, 1, 4, 6]), (2, [], [0, 1, 4, 6, 7]), (3, [], [0, 1, 4, 6, 7, 20]), (4, [], [4, 7]), (5, [1, 2, 0, 3, 4], [4, 7, 34]), (6, [], [4, 7]), (7, [0, 1, 2, 3, 4], [4, 5]), (8, [], [0, 1, 4, 6, 7, 39]), (9, [0, 1, 2, 4, 5, 3, 6, 7, 8], [4, 5]), (10, [], [0, 1, 4, 6, 7, 49]), (11, [0, 1, 2, 3, 4, 5, 6, 7, 8, 9, 10, 11, 12, 13, 14], [4, 5]), (12, [], [0, 1, 4, 7, 65]), (13, [], [4, 7]), (14, [], [4, 7, 75, 76, 77]), (15, [], [4, 7, 75, 76, 77, 78]), (16, [], [4, 7, 9, 75, 76, 77]), (17, [], [4, 7, 75, 76, 77]), (18, [], [4, 7, 75, 76, 77, 84]), (19, [], [4, 5]), (20, [], [4, 7, 75, 76, 77]), (21, [], [4, 5]), (22, [0, 2, 3, 1, 4, 5, 6], [4, 5]), (999999, [34, 78, 84, 65, 49, 39, 20], [])]
def l_rone_0 : ACode := (.seq (.reg [⟨(some 78), .bin .lss (.t 77) (.t 76), none⟩] [4, 7, 75, 76, 77, 78])
 (.seq (.cond (.t 78) true
   .skip
   (.exit 1))
 (.seq (.block 2 (.seq (.reg [⟨(some 79), .iaddr 1 (.t 75) (.t 77), none⟩,
     ⟨(some 80), .load none (.t 79), none⟩,
     ⟨(some 9), .mv (.t 80), none⟩] [4, 7, 9, 75, 76, 77])
   (.seq (.reg [⟨(some 81), .mv (.t 9), none⟩,
     ⟨(some 82), .faddr 0 (.t 7), none⟩,
     ⟨none, .store 1 (.t 82) (.t 81), none⟩] [4, 7, 75, 76, 77])
   (.seq (.reg [⟨(some 83), .load (some 3) (.t 7), none⟩,
     ⟨(some 84), .call (.f 50) [(.t 83)], none⟩] [4, 7, 75, 76, 77, 84])
   (.cond (.t 84) true
    (.seq (.reg [⟨(some 85), .load (some 3) (.t 7), none⟩,
      ⟨none, .store 3 (.t 4) (.t 85), none⟩,
      ⟨(some 5), .mv (.c (.bool true)), none⟩] [4, 5])
    .ret)
    .skip)))))
 (.reg [⟨(some 86), .bin .add (.t 77) (.c (.int .i64 1)), none⟩,
  ⟨(some 77), .mv (.t 86), none⟩] [4, 7, 75, 76, 77]))))
def c_rone : AFn := ⟨(.seq (.reg [⟨(some 4), .alloc [(.int .i64 0), (.str []), (.int .i64 0)], none⟩,
   ⟨(some 5), .mv (.c (.bool false)), none⟩] [0, 1, 4])
 (.seq (.reg [⟨(some 10), .mv (.t 0), none⟩,
   ⟨(some 11), .mv (.t 1), none⟩,
   ⟨(some 12), .ixS (.t 10) (.t 11), none⟩,
   ⟨(some 6), .mv (.t 12), none⟩] [0, 1, 4, 6])
 (.seq (.reg [⟨(some 13), .mv (.t 0), none⟩,
   ⟨(some 14), .mv (.t 1), none⟩,
   ⟨(some 15), .mv (.t 1), none⟩,
   ⟨(some 16), .bin .add (.t 15) (.c (.int .i64 1)), none⟩,
   ⟨(some 17), .slS (.t 13) (some (.t 14)) (some (.t 16)), none⟩,
   ⟨(some 18), .mv (.t 1), none⟩,
   ⟨(some 19), .build [(.int .i64 0), (.str []), (.int .i64 0)] [(0, 1, (.c (.int .i64 5))), (1, 1, (.t 17)), (2, 1, (.t 18))], none⟩,
   ⟨(some 7), .alloc [(.int .i64 0), (.str []), (.int .i64 0)], none⟩,
   ⟨none, .store 3 (.t 7) (.t 19), none⟩] [0, 1, 4, 6, 7])
 (.seq (.block 0 (.seq (.reg [⟨(some 21), .mv (.t 6), none⟩,
     ⟨(some 22), .call (.f 58) [(.t 21)], none⟩,
     ⟨(some 20), .mv (.t 22), none⟩] [0, 1, 4, 6, 7, 20])
   (.cond (.t 20) true
    (.seq (.reg [⟨(some 23), .mv (.t 0), none⟩,
      ⟨(some 24), .mv (.t 1), none⟩,
      ⟨(some 25), .mv (.t 0), none⟩,
      ⟨(some 26), .mv (.t 1), none⟩,
      ⟨(some 27), .call (.f 29) [(.t 25), (.t 26), (.c (.bool true))], none⟩,
      ⟨(some 28), .slS (.t 23) (some (.t 24)) (some (.t 27)), none⟩,
      ⟨(some 29), .faddr 1 (.t 7), none⟩,
      ⟨none, .store 1 (.t 29) (.t 28), none⟩] [4, 7])
    (.seq (.seq (.dreg [⟨⟨(some 31), .faddr 1 (.t 7), none⟩, []⟩,
       ⟨⟨(some 32), .load none (.t 31), none⟩, []⟩,
       ⟨⟨(some 30), .call (.f 41) [], none⟩, [⟨(some 32), .load none (.t 31), none⟩]⟩,
       ⟨⟨(some 33), .call (.f 35) [(.t 30), (.t 32)], none⟩, []⟩,
       ⟨⟨(some 34), .not (.t 33), none⟩, []⟩] [4, 7, 34])
     (.cond (.t 34) true
      (.reg [⟨(some 35), .faddr 0 (.t 7), none⟩,
       ⟨none, .store 1 (.t 35) (.c (.int .i64 3)), none⟩] [4, 7])
      .skip))
    (.seq (.dreg [⟨⟨(some 36), .load (some 3) (.t 7), none⟩, []⟩,
      ⟨⟨(some 37), .load (some 3) (.t 7), none⟩, []⟩,
      ⟨⟨(some 38), .call (.f 50) [(.t 37)], none⟩, [⟨(some 36), .load (some 3) (.t 7), none⟩]⟩,
      ⟨⟨none, .store 3 (.t 4) (.t 36), none⟩, []⟩,
      ⟨⟨(some 5), .mv (.t 38), none⟩, []⟩] [4, 5])
    .ret)))
    (.seq (.reg [⟨(some 40), .mv (.t 6), none⟩,
      ⟨(some 41), .bin .eql (.t 40) (.c (.int .u8 95)), none⟩,
      ⟨(some 39), .mv (.t 41), none⟩] [0, 1, 4, 6, 7, 39])
    (.cond (.t 39) true
     (.seq (.dreg [⟨⟨(some 42), .load (some 3) (.t 7), none⟩, []⟩,
       ⟨⟨(some 43), .mv (.t 0), none⟩, []⟩,
       ⟨⟨(some 44), .mv (.t 1), none⟩, []⟩,
       ⟨⟨(some 46), .mv (.t 1), none⟩, []⟩,
       ⟨⟨(some 47), .bin .add (.t 46) (.c (.int .i64 1)), none⟩, []⟩,
       ⟨⟨(some 45), .call (.f 29) [(.t 43), (.t 44), (.c (.bool false))], none⟩, [⟨(some 42), .load (some 3) (.t 7), none⟩]⟩,
       ⟨⟨(some 48), .bin .eql (.t 45) (.t 47), none⟩, []⟩,
       ⟨⟨none, .store 3 (.t 4) (.t 42), none⟩, []⟩,
       ⟨⟨(some 5), .mv (.t 48), none⟩, []⟩] [4, 5])
     .ret)
     (.seq (.reg [⟨(some 50), .mv (.t 6), none⟩,
       ⟨(some 51), .bin .eql (.t 50) (.c (.int .u8 39)), none⟩,
       ⟨(some 49), .mv (.t 51), none⟩] [0, 1, 4, 6, 7, 49])
     (.cond (.t 49) true
      (.seq (.dreg [⟨⟨(some 52), .load (some 3) (.t 7), none⟩, []⟩,
        ⟨⟨(some 53), .mv (.t 1), none⟩, []⟩,
        ⟨⟨(some 54), .bin .add (.t 53) (.c (.int .i64 1)), none⟩, []⟩,
        ⟨⟨(some 55), .mv (.t 0), none⟩, []⟩,
        ⟨⟨(some 56), .lenS (.t 55), none⟩, []⟩,
        ⟨⟨(some 57), .bin .lss (.t 54) (.t 56), none⟩, []⟩,
        ⟨⟨(some 58), .mv (.t 57), none⟩, []⟩,
        ⟨⟨(some 59), .mv (.t 0), (some (58, true))⟩, []⟩,
        ⟨⟨(some 60), .mv (.t 1), (some (58, true))⟩, []⟩,
        ⟨⟨(some 61), .bin .add (.t 60) (.c (.int .i64 1)), (some (58, true))⟩, []⟩,
        ⟨⟨(some 62), .ixS (.t 59) (.t 61), (some (58, true))⟩, []⟩,
        ⟨⟨(some 63), .call (.f 37) [(.t 62)], (some (58, true))⟩, [⟨(some 52), .load (some 3) (.t 7), none⟩]⟩,
        ⟨⟨(some 64), .pick (.t 58) (.t 63) (.c (.bool false)), none⟩, []⟩,
        ⟨⟨none, .store 3 (.t 4) (.t 52), none⟩, []⟩,
        ⟨⟨(some 5), .mv (.t 64), none⟩, []⟩] [4, 5])
      .ret)
      (.seq (.reg [⟨(some 66), .mv (.t 6), none⟩,
        ⟨(some 67), .call (.f 59) [(.t 66)], none⟩,
        ⟨(some 65), .mv (.t 67), none⟩] [0, 1, 4, 7, 65])
      (.cond (.t 65) true
       (.seq (.reg [⟨(some 68), .mv (.t 0), none⟩,
         ⟨(some 69), .mv (.t 1), none⟩,
         ⟨(some 70), .mv (.t 0), none⟩,
         ⟨(some 71), .mv (.t 1), none⟩,
         ⟨(some 72), .call (.f 29) [(.t 70), (.t 71), (.c (.bool false))], none⟩,
         ⟨(some 73), .slS (.t 68) (some (.t 69)) (some (.t 72)), none⟩,
         ⟨(some 74), .faddr 1 (.t 7), none⟩,
         ⟨none, .store 1 (.t 74) (.t 73), none⟩] [4, 7])
       (.seq (.seq (.reg [⟨(some 75), .call (.f 60) [], none⟩,
          ⟨(some 76), .lenL (.t 75), none⟩,
          ⟨(some 77), .mv (.c (.int .i64 0)), none⟩] [4, 7, 75, 76, 77])
        (.block 1 (.loop l_rone_0)))
       (.seq (.reg [⟨(some 87), .load (some 3) (.t 7), none⟩,
         ⟨none, .store 3 (.t 4) (.t 87), none⟩,
         ⟨(some 5), .mv (.c (.bool false)), none⟩] [4, 5])
       .ret)))
       .skip)))))))))
 (.seq (.dreg [⟨⟨(some 88), .load (some 3) (.t 7), none⟩, []⟩,
   ⟨⟨(some 90), .faddr 1 (.t 7), none⟩, []⟩,
   ⟨⟨(some 91), .load none (.t 90), none⟩, []⟩,
   ⟨⟨(some 89), .call (.f 61) [], none⟩, [⟨(some 88), .load (some 3) (.t 7), none⟩, ⟨(some 91), .load none (.t 90), none⟩]⟩,
   ⟨⟨(some 92), .call (.f 35) [(.t 89), (.t 91)], none⟩, [⟨(some 88), .load (some 3) (.t 7), none⟩]⟩,
   ⟨⟨none, .store 3 (.t 4) (.t 88), none⟩, []⟩,
   ⟨⟨(some 5), .mv (.t 92), none⟩, []⟩] [4, 5])
 .ret))))), [.cell (some 3) 4, .tmp 5], 93⟩
theorem h_rone : compFn Tryd.prog k_rone 30 = some c_rone := by kernel_rfl
/-- damask/damaskref01.small -/
abbrev f_rsmall : FuncId := 33
def k_rsmall : Tab := [(0, [], [0]), (1, [], [2])]
def c_rsmall : AFn := ⟨(.seq (.reg [⟨(some 2), .mv (.c (.bool false)), none⟩] [0])
 (.seq (.reg [⟨(some 3), .mv (.t 0), none⟩,
   ⟨(some 4), .bin .geq (.t 3) (.c (.int .u8 97)), none⟩,
   ⟨(some 5), .mv (.t 4), none⟩,
   ⟨(some 6), .mv (.t 0), (some (5, true))⟩,
   ⟨(some 7), .bin .leq (.t 6) (.c (.int .u8 122)), (some (5, true))⟩,
   ⟨(some 8), .pick (.t 5) (.t 7) (.c (.bool false)), none⟩,
   ⟨(some 2), .mv (.t 8), none⟩] [2])
 .ret)), [.tmp 2], 9⟩
theorem h_rsmall : compFn Tryd.prog k_rsmall 33 = some c_rsmall := by kernel_rfl
/-- damask/damaskref01.capital -/
abbrev f_rcapital : FuncId := 37
def k_rcapital : Tab := [(0, [], [0]), (1, [], [2])]
def c_rcapital : AFn := ⟨(.seq (.reg [⟨(some 2), .mv (.c (.bool false)), none⟩] [0])
 (.seq (.reg [⟨(some 3), .mv (.t 0), none⟩,
   ⟨(some 4), .bin .geq (.t 3) (.c (.int .u8 65)), none⟩,
   ⟨(some 5), .mv (.t 4), none⟩,
   ⟨(some 6), .mv (.t 0), (some (5, true))⟩,
   ⟨(some 7), .bin .leq (.t 6) (.c (.int .u8 90)), (some (5, true))⟩,
   ⟨(some 8), .pick (.t 5) (.t 7) (.c (.bool false)), none⟩,
   ⟨(some 2), .mv (.t 8), none⟩] [2])
 .ret)), [.tmp 2], 9⟩
theorem h_rcapital : compFn Tryd.prog k_rcapital 37 = some c_rcapital := by kernel_rfl
/-- damask/damaskref01.digit -/
abbrev f_rdigit : FuncId := 75
def k_rdigit : Tab := [(0, [], [0]), (1, [], [2])]
def c_rdigit : AFn := ⟨(.seq (.reg [⟨(some 2), .mv (.c (.bool false)), none⟩] [0])
 (.seq (.reg [⟨(some 3), .mv (.t 0), none⟩,
   ⟨(some 4), .bin .geq (.t 3) (.c (.int .u8 48)), none⟩,
   ⟨(some 5), .mv (.t 4), none⟩,
   ⟨(some 6), .mv (.t 0), (some (5, true))⟩,
   ⟨(some 7), .bin .leq (.t 6) (.c (.int .u8 57)), (some (5, true))⟩,
   ⟨(some 8), .pick (.t 5) (.t 7) (.c (.bool false)), none⟩,
   ⟨(some 2), .mv (.t 8), none⟩] [2])
 .ret)), [.tmp 2], 9⟩
theorem h_rdigit : compFn Tryd.prog k_rdigit 75 = some c_rdigit := by kernel_rfl
/-- damask/damaskref01.all -/
abbrev f_rall : FuncId := 34
def k_rall : Tab := [(0, [], [0, 1]), (1, [], [0, 1, 7, 8]), (2, [], [0, 1, 7, 8, 9]), (3, [], [0, 1, 5, 7, 8]), (4, [], [0, 1, 7, 8, 29]), (5, [], [4]), (6, [], [0, 1, 7, 8]), (7, [], [4]), (999999, [9, 29], [])]
def l_rall_0 : ACode := (.seq (.reg [⟨(some 9), .bin .lss (.t 8) (.t 7), none⟩] [0, 1, 7, 8, 9])
 (.seq (.cond (.t 9) true
   .skip
   (.exit 0))
 (.seq (.block 1 (.seq (.reg [⟨(some 10), .mv (.t 8), none⟩,
     ⟨(some 5), .mv (.t 10), none⟩] [0, 1, 5, 7, 8])
   (.seq (.reg [⟨(some 11), .mv (.t 1), none⟩,
     ⟨(some 12), .mv (.t 11), none⟩,
     ⟨(some 13), .mv (.t 0), (some (12, true))⟩,
     ⟨(some 14), .mv (.t 5), (some (12, true))⟩,
     ⟨(some 15), .ixS (.t 13) (.t 14), (some (12, true))⟩,
     ⟨(some 16), .call (.f 58) [(.t 15)], (some (12, true))⟩,
     ⟨(some 17), .not (.t 16), (some (12, true))⟩,
     ⟨(some 18), .pick (.t 12) (.t 17) (.c (.bool false)), none⟩,
     ⟨(some 19), .mv (.t 18), none⟩,
     ⟨(some 20), .mv (.t 1), (some (19, false))⟩,
     ⟨(some 21), .not (.t 20), (some (19, false))⟩,
     ⟨(some 22), .mv (.t 21), (some (19, false))⟩,
     ⟨(some 23), .mv (.t 0), (some (22, true))⟩,
     ⟨(some 24), .mv (.t 5), (some (22, true))⟩,
     ⟨(some 25), .ixS (.t 23) (.t 24), (some (22, true))⟩,
     ⟨(some 26), .call (.f 59) [(.t 25)], (some (22, true))⟩,
     ⟨(some 27), .not (.t 26), (some (22, true))⟩,
     ⟨(some 28), .pick (.t 22) (.t 27) (.c (.bool false)), (some (19, false))⟩,
     ⟨(some 29), .pick (.t 19) (.c (.bool true)) (.t 28), none⟩] [0, 1, 7, 8, 29])
   (.cond (.t 29) true
    (.seq (.reg [⟨(some 4), .mv (.c (.bool false)), none⟩] [4])
    .ret)
    .skip))))
 (.reg [⟨(some 30), .bin .add (.t 8) (.c (.int .i64 1)), none⟩,
  ⟨(some 8), .mv (.t 30), none⟩] [0, 1, 7, 8]))))
def c_rall : AFn := ⟨(.seq (.reg [⟨(some 4), .mv (.c (.bool false)), none⟩] [0, 1])
 (.seq (.seq (.reg [⟨(some 6), .mv (.t 0), none⟩,
    ⟨(some 7), .lenS (.t 6), none⟩,
    ⟨(some 8), .mv (.c (.int .i64 0)), none⟩] [0, 1, 7, 8])
  (.block 0 (.loop l_rall_0)))
 (.seq (.reg [⟨(some 4), .mv (.c (.bool true)), none⟩] [4])
 .ret))), [.tmp 4], 31⟩
theorem h_rall : compFn Tryd.prog k_rall 34 = some c_rall := by kernel_rfl
/-- damask/damaskref01.has -/
abbrev f_rhas : FuncId := 35
def k_rhas : Tab := [(0, [], [0, 1]), (1, [], [1, 7, 8, 9]), (2, [], [1, 7, 8, 9, 10]), (3, [], [1, 6, 7, 8, 9]), (4, [], [1, 7, 8, 9, 15]), (5, [], [4]), (6, [], [1, 7, 8, 9]), (7, [], [4]), (999999, [10, 15], [])]
def l_rhas_0 : ACode := (.seq (.reg [⟨(some 10), .bin .lss (.t 9) (.t 8), none⟩] [1, 7, 8, 9, 10])
 (.seq (.cond (.t 10) true
   .skip
   (.exit 0))
 (.seq (.block 1 (.seq (.reg [⟨(some 11), .iaddr 1 (.t 7) (.t 9), none⟩,
     ⟨(some 12), .load none (.t 11), none⟩,
     ⟨(some 6), .mv (.t 12), none⟩] [1, 6, 7, 8, 9])
   (.seq (.reg [⟨(some 13), .mv (.t 6), none⟩,
     ⟨(some 14), .mv (.t 1), none⟩,
     ⟨(some 15), .bin .eql (.t 13) (.t 14), none⟩] [1, 7, 8, 9, 15])
   (.cond (.t 15) true
    (.seq (.reg [⟨(some 4), .mv (.c (.bool true)), none⟩] [4])
    .ret)
    .skip))))
 (.reg [⟨(some 16), .bin .add (.t 9) (.c (.int .i64 1)), none⟩,
  ⟨(some 9), .mv (.t 16), none⟩] [1, 7, 8, 9]))))
def c_rhas : AFn := ⟨(.seq (.reg [⟨(some 4), .mv (.c (.bool false)), none⟩] [0, 1])
 (.seq (.seq (.reg [⟨(some 7), .mv (.t 0), none⟩,
    ⟨(some 8), .lenL (.t 7), none⟩,
    ⟨(some 9), .mv (.c (.int .i64 0)), none⟩] [1, 7, 8, 9])
  (.block 0 (.loop l_rhas_0)))
 (.seq (.reg [⟨(some 4), .mv (.c (.bool false)), none⟩] [4])
 .ret))), [.tmp 4], 17⟩
theorem h_rhas : compFn Tryd.prog k_rhas 35 = some c_rhas := by kernel_rfl
/-- damask/damaskref01.runs -/
abbrev f_rruns : FuncId := 41
def k_rruns : Tab := [(0, [], []), (1, [], [0])]
def c_rruns : AFn := ⟨(.seq (.reg [⟨(some 0), .mv (.c (.sl [] .full)), none⟩] [])
 (.seq (.reg [⟨(some 1), .bsl 1 [(.c (.str [61])), (.c (.str [45, 62])), (.c (.str [61, 62])), (.c (.str [60, 45])), (.c (.str [58])), (.c (.str [124])), (.c (.str [92])), (.c (.str [64])), (.c (.str [126])), (.c (.str [33])), (.c (.str [46]))], none⟩,
   ⟨(some 0), .mv (.t 1), none⟩] [0])
 .ret)), [.tmp 0], 2⟩
theorem h_rruns : compFn Tryd.prog k_rruns 41 = some c_rruns := by kernel_rfl
/-- damask/damaskref01.bytes -/
abbrev f_rbytes : FuncId := 61
def k_rbytes : Tab := [(0, [], []), (1, [], [0])]
def c_rbytes : AFn := ⟨(.seq (.reg [⟨(some 0), .mv (.c (.sl [] .full)), none⟩] [])
 (.seq (.reg [⟨(some 1), .bsl 1 [(.c (.str [40])), (.c (.str [41])), (.c (.str [123])), (.c (.str [125])), (.c (.str [44])), (.c (.str [59])), (.c (.str [95])), (.c (.str [39]))], none⟩,
   ⟨(some 0), .mv (.t 1), none⟩] [0])
 .ret)), [.tmp 0], 2⟩
theorem h_rbytes : compFn Tryd.prog k_rbytes 61 = some c_rbytes := by kernel_rfl
/-- damask/damaskref01.Is -/
abbrev f_rIs : FuncId := 50
def k_rIs : Tab := [(0, [], [1]), (1, [], [1, 4]), (2, [], [1, 4, 5]), (3, [], [2]), (4, [], [1, 4, 10]), (5, [], [2]), (6, [], [1, 4, 15]), (7, [], [2]), (8, [], [1, 4, 20]), (9, [], [2]), (10, [], [1, 4, 25]), (11, [1, 2, 0, 3, 4, 6, 7, 5, 8, 9, 10], [2]), (12, [], [1, 37]), (13, [1, 2, 0, 3, 4], [2]), (14, [], [2]), (999999, [37, 25, 20, 15, 10, 5], [])]
def c_rIs : AFn := ⟨(.seq (.reg [⟨(some 1), .box (.t 0), none⟩,
   ⟨(some 2), .mv (.c (.bool false)), none⟩] [1])
 (.seq (.seq (.reg [⟨(some 3), .faddr 0 (.t 1), none⟩,
    ⟨(some 4), .load none (.t 3), none⟩] [1, 4])
  (.block 0 (.seq (.reg [⟨(some 6), .bin .eql (.t 4) (.c (.int .i64 1)), none⟩,
     ⟨(some 5), .mv (.t 6), none⟩] [1, 4, 5])
   (.cond (.t 5) true
    (.seq (.reg [⟨(some 7), .faddr 1 (.t 1), none⟩,
      ⟨(some 8), .load none (.t 7), none⟩,
      ⟨(some 9), .call (.f 14) [(.t 8)], none⟩,
      ⟨(some 2), .mv (.t 9), none⟩] [2])
    .ret)
    (.seq (.reg [⟨(some 11), .bin .eql (.t 4) (.c (.int .i64 2)), none⟩,
      ⟨(some 10), .mv (.t 11), none⟩] [1, 4, 10])
    (.cond (.t 10) true
     (.seq (.reg [⟨(some 12), .faddr 1 (.t 1), none⟩,
       ⟨(some 13), .load none (.t 12), none⟩,
       ⟨(some 14), .call (.f 16) [(.t 13)], none⟩,
       ⟨(some 2), .mv (.t 14), none⟩] [2])
     .ret)
     (.seq (.reg [⟨(some 16), .bin .eql (.t 4) (.c (.int .i64 3)), none⟩,
       ⟨(some 15), .mv (.t 16), none⟩] [1, 4, 15])
     (.cond (.t 15) true
      (.seq (.reg [⟨(some 17), .faddr 1 (.t 1), none⟩,
        ⟨(some 18), .load none (.t 17), none⟩,
        ⟨(some 19), .call (.f 18) [(.t 18)], none⟩,
        ⟨(some 2), .mv (.t 19), none⟩] [2])
      .ret)
      (.seq (.reg [⟨(some 21), .bin .eql (.t 4) (.c (.int .i64 4)), none⟩,
        ⟨(some 20), .mv (.t 21), none⟩] [1, 4, 20])
      (.cond (.t 20) true
       (.seq (.reg [⟨(some 22), .faddr 1 (.t 1), none⟩,
         ⟨(some 23), .load none (.t 22), none⟩,
         ⟨(some 24), .call (.f 70) [(.t 23)], none⟩,
         ⟨(some 2), .mv (.t 24), none⟩] [2])
       .ret)
       (.seq (.reg [⟨(some 26), .bin .eql (.t 4) (.c (.int .i64 5)), none⟩,
         ⟨(some 25), .mv (.t 26), none⟩] [1, 4, 25])
       (.cond (.t 25) true
        (.seq (.dreg [⟨⟨(some 28), .faddr 1 (.t 1), none⟩, []⟩,
          ⟨⟨(some 29), .load none (.t 28), none⟩, []⟩,
          ⟨⟨(some 27), .call (.f 41) [], none⟩, [⟨(some 29), .load none (.t 28), none⟩]⟩,
          ⟨⟨(some 30), .call (.f 35) [(.t 27), (.t 29)], none⟩, []⟩,
          ⟨⟨(some 31), .mv (.t 30), none⟩, []⟩,
          ⟨⟨(some 33), .faddr 1 (.t 1), (some (31, false))⟩, []⟩,
          ⟨⟨(some 34), .load none (.t 33), (some (31, false))⟩, []⟩,
          ⟨⟨(some 32), .call (.f 61) [], (some (31, false))⟩, [⟨(some 34), .load none (.t 33), (some (31, false))⟩]⟩,
          ⟨⟨(some 35), .call (.f 35) [(.t 32), (.t 34)], (some (31, false))⟩, []⟩,
          ⟨⟨(some 36), .pick (.t 31) (.c (.bool true)) (.t 35), none⟩, []⟩,
          ⟨⟨(some 2), .mv (.t 36), none⟩, []⟩] [2])
        .ret)
        (.seq (.reg [⟨(some 38), .bin .eql (.t 4) (.c (.int .i64 6)), none⟩,
          ⟨(some 37), .mv (.t 38), none⟩] [1, 37])
        (.cond (.t 37) true
         (.seq (.dreg [⟨⟨(some 40), .faddr 1 (.t 1), none⟩, []⟩,
           ⟨⟨(some 41), .load none (.t 40), none⟩, []⟩,
           ⟨⟨(some 39), .call (.f 21) [], none⟩, [⟨(some 41), .load none (.t 40), none⟩]⟩,
           ⟨⟨(some 42), .call (.f 35) [(.t 39), (.t 41)], none⟩, []⟩,
           ⟨⟨(some 2), .mv (.t 42), none⟩, []⟩] [2])
         .ret)
         .skip))))))))))))))
 (.seq (.reg [⟨(some 43), .faddr 0 (.t 1), none⟩,
   ⟨(some 44), .load none (.t 43), none⟩,
   ⟨(some 45), .bin .eql (.t 44) (.c (.int .i64 7)), none⟩,
   ⟨(some 46), .mv (.t 45), none⟩,
   ⟨(some 47), .faddr 1 (.t 1), (some (46, true))⟩,
   ⟨(some 48), .load none (.t 47), (some (46, true))⟩,
   ⟨(some 49), .bin .eql (.t 48) (.c (.str [])), (some (46, true))⟩,
   ⟨(some 50), .pick (.t 46) (.t 49) (.c (.bool false)), none⟩,
   ⟨(some 2), .mv (.t 50), none⟩] [2])
 .ret))), [.tmp 2], 51⟩
theorem h_rIs : compFn Tryd.prog k_rIs 50 = some c_rIs := by kernel_rfl
/-- damask/damaskref01.inOp -/
abbrev f_rinOp : FuncId := 58
def k_rinOp : Tab := [(0, [], [0]), (1, [], [0, 6, 7, 8]), (2, [], [0, 6, 7, 8, 9]), (3, [], [0, 4, 6, 7, 8]), (4, [], [0, 6, 7, 8, 14]), (5, [], [2]), (6, [], [0, 6, 7, 8]), (7, [], [2]), (999999, [9, 14], [])]
def l_rinOp_0 : ACode := (.seq (.reg [⟨(some 9), .bin .lss (.t 8) (.t 7), none⟩] [0, 6, 7, 8, 9])
 (.seq (.cond (.t 9) true
   .skip
   (.exit 0))
 (.seq (.block 1 (.seq (.reg [⟨(some 10), .iaddr 1 (.t 6) (.t 8), none⟩,
     ⟨(some 11), .load none (.t 10), none⟩,
     ⟨(some 4), .mv (.t 11), none⟩] [0, 4, 6, 7, 8])
   (.seq (.reg [⟨(some 12), .mv (.t 0), none⟩,
     ⟨(some 13), .mv (.t 4), none⟩,
     ⟨(some 14), .bin .eql (.t 12) (.t 13), none⟩] [0, 6, 7, 8, 14])
   (.cond (.t 14) true
    (.seq (.reg [⟨(some 2), .mv (.c (.bool true)), none⟩] [2])
    .ret)
    .skip))))
 (.reg [⟨(some 15), .bin .add (.t 8) (.c (.int .i64 1)), none⟩,
  ⟨(some 8), .mv (.t 15), none⟩] [0, 6, 7, 8]))))
def c_rinOp : AFn := ⟨(.seq (.reg [⟨(some 2), .mv (.c (.bool false)), none⟩] [0])
 (.seq (.seq (.reg [⟨(some 5), .bslf 1 [(.c (.int .u8 33)), (.c (.int .u8 35)), (.c (.int .u8 36)), (.c (.int .u8 37)), (.c (.int .u8 38)), (.c (.int .u8 42)), (.c (.int .u8 43)), (.c (.int .u8 46)), (.c (.int .u8 47)), (.c (.int .u8 60)), (.c (.int .u8 61)), (.c (.int .u8 62)), (.c (.int .u8 63)), (.c (.int .u8 64)), (.c (.int .u8 94)), (.c (.int .u8 124)), (.c (.int .u8 45)), (.c (.int .u8 126)), (.c (.int .u8 58)), (.c (.int .u8 92))], none⟩,
    ⟨(some 6), .sls (.t 5), none⟩,
    ⟨(some 7), .lenL (.t 6), none⟩,
    ⟨(some 8), .mv (.c (.int .i64 0)), none⟩] [0, 6, 7, 8])
  (.block 0 (.loop l_rinOp_0)))
 (.seq (.reg [⟨(some 2), .mv (.c (.bool false)), none⟩] [2])
 .ret))), [.tmp 2], 16⟩
theorem h_rinOp : compFn Tryd.prog k_rinOp 58 = some c_rinOp := by kernel_rfl
/-- damask/damaskref01.inName -/
abbrev f_rinName : FuncId := 59
def k_rinName : Tab := [(0, [], [0]), (1, [], [2])]
def c_rinName : AFn := ⟨(.seq (.reg [⟨(some 2), .mv (.c (.bool false)), none⟩] [0])
 (.seq (.reg [⟨(some 3), .mv (.t 0), none⟩,
   ⟨(some 4), .call (.f 33) [(.t 3)], none⟩,
   ⟨(some 5), .mv (.t 4), none⟩,
   ⟨(some 6), .mv (.t 0), (some (5, false))⟩,
   ⟨(some 7), .call (.f 37) [(.t 6)], (some (5, false))⟩,
   ⟨(some 8), .pick (.t 5) (.c (.bool true)) (.t 7), none⟩,
   ⟨(some 9), .mv (.t 8), none⟩,
   ⟨(some 10), .mv (.t 0), (some (9, false))⟩,
   ⟨(some 11), .call (.f 75) [(.t 10)], (some (9, false))⟩,
   ⟨(some 12), .pick (.t 9) (.c (.bool true)) (.t 11), none⟩,
   ⟨(some 13), .mv (.t 12), none⟩,
   ⟨(some 14), .mv (.t 0), (some (13, false))⟩,
   ⟨(some 15), .bin .eql (.t 14) (.c (.int .u8 95)), (some (13, false))⟩,
   ⟨(some 16), .pick (.t 13) (.c (.bool true)) (.t 15), none⟩,
   ⟨(some 17), .mv (.t 16), none⟩,
   ⟨(some 18), .mv (.t 0), (some (17, false))⟩,
   ⟨(some 19), .bin .eql (.t 18) (.c (.int .u8 39)), (some (17, false))⟩,
   ⟨(some 20), .pick (.t 17) (.c (.bool true)) (.t 19), none⟩,
   ⟨(some 2), .mv (.t 20), none⟩] [2])
 .ret)), [.tmp 2], 21⟩
theorem h_rinName : compFn Tryd.prog k_rinName 59 = some c_rinName := by kernel_rfl
/-- damask/damaskref01.kinds -/
abbrev f_rkinds : FuncId := 60
def k_rkinds : Tab := [(0, [], []), (1, [], [0])]
def c_rkinds : AFn := ⟨(.seq (.reg [⟨(some 0), .mv (.c (.sl [] .full)), none⟩] [])
 (.seq (.reg [⟨(some 1), .bsl 1 [(.c (.int .i64 1)), (.c (.int .i64 2)), (.c (.int .i64 6)), (.c (.int .i64 4))], none⟩,
   ⟨(some 0), .mv (.t 1), none⟩] [0])
 .ret)), [.tmp 0], 2⟩
theorem h_rkinds : compFn Tryd.prog k_rkinds 60 = some c_rkinds := by kernel_rfl
/-- damask/damaskref01.IsNumber -/
abbrev f_rIsNumber : FuncId := 70
def k_rIsNumber : Tab := [(0, [], [0]), (1, [], [0, 30]), (2, [], [2]), (3, [], [0, 32, 33]), (4, [], [0, 32, 33, 34]), (5, [], [0, 3, 32, 33]), (6, [], [0, 32, 33, 40]), (7, [], [2]), (8, [], [0, 32, 33]), (9, [], [2]), (999999, [30, 34, 40], [])]
def l_rIsNumber_0 : ACode := (.seq (.reg [⟨(some 34), .bin .lss (.t 33) (.t 32), none⟩] [0, 32, 33, 34])
 (.seq (.cond (.t 34) true
   .skip
   (.exit 0))
 (.seq (.block 1 (.seq (.reg [⟨(some 35), .mv (.t 33), none⟩,
     ⟨(some 3), .mv (.t 35), none⟩] [0, 3, 32, 33])
   (.seq (.reg [⟨(some 36), .mv (.t 0), none⟩,
     ⟨(some 37), .mv (.t 3), none⟩,
     ⟨(some 38), .ixS (.t 36) (.t 37), none⟩,
     ⟨(some 39), .call (.f 75) [(.t 38)], none⟩,
     ⟨(some 40), .not (.t 39), none⟩] [0, 32, 33, 40])
   (.cond (.t 40) true
    (.seq (.reg [⟨(some 2), .mv (.c (.bool false)), none⟩] [2])
    .ret)
    .skip))))
 (.reg [⟨(some 41), .bin .add (.t 33) (.c (.int .i64 1)), none⟩,
  ⟨(some 33), .mv (.t 41), none⟩] [0, 32, 33]))))
def c_rIsNumber : AFn := ⟨(.seq (.reg [⟨(some 2), .mv (.c (.bool false)), none⟩] [0])
 (.seq (.seq (.reg [⟨(some 4), .mv (.t 0), none⟩,
    ⟨(some 5), .lenS (.t 4), none⟩,
    ⟨(some 6), .bin .lss (.t 5) (.c (.int .i64 1)), none⟩,
    ⟨(some 7), .mv (.t 6), none⟩,
    ⟨(some 8), .mv (.t 0), (some (7, false))⟩,
    ⟨(some 9), .lenS (.t 8), (some (7, false))⟩,
    ⟨(some 10), .bin .gtr (.t 9) (.c (.int .i64 19)), (some (7, false))⟩,
    ⟨(some 11), .pick (.t 7) (.c (.bool true)) (.t 10), none⟩,
    ⟨(some 12), .mv (.t 11), none⟩,
    ⟨(some 13), .mv (.t 0), (some (12, false))⟩,
    ⟨(some 14), .ixS (.t 13) (.c (.int .i64 0)), (some (12, false))⟩,
    ⟨(some 15), .bin .eql (.t 14) (.c (.int .u8 48)), (some (12, false))⟩,
    ⟨(some 16), .mv (.t 15), (some (12, false))⟩,
    ⟨(some 17), .mv (.t 0), (some (16, true))⟩,
    ⟨(some 18), .lenS (.t 17), (some (16, true))⟩,
    ⟨(some 19), .bin .gtr (.t 18) (.c (.int .i64 1)), (some (16, true))⟩,
    ⟨(some 20), .pick (.t 16) (.t 19) (.c (.bool false)), (some (12, false))⟩,
    ⟨(some 21), .pick (.t 12) (.c (.bool true)) (.t 20), none⟩,
    ⟨(some 22), .mv (.t 21), none⟩,
    ⟨(some 23), .mv (.t 0), (some (22, false))⟩,
    ⟨(some 24), .lenS (.t 23), (some (22, false))⟩,
    ⟨(some 25), .bin .eql (.t 24) (.c (.int .i64 19)), (some (22, false))⟩,
    ⟨(some 26), .mv (.t 25), (some (22, false))⟩,
    ⟨(some 27), .mv (.t 0), (some (26, true))⟩,
    ⟨(some 28), .bin .gtr (.t 27) (.c (.str [57, 50, 50, 51, 51, 55, 50, 48, 51, 54, 56, 53, 52, 55, 55, 53, 56, 48, 55])), (some (26, true))⟩,
    ⟨(some 29), .pick (.t 26) (.t 28) (.c (.bool false)), (some (22, false))⟩,
    ⟨(some 30), .pick (.t 22) (.c (.bool true)) (.t 29), none⟩] [0, 30])
  (.cond (.t 30) true
   (.seq (.reg [⟨(some 2), .mv (.c (.bool false)), none⟩] [2])
   .ret)
   .skip))
 (.seq (.seq (.reg [⟨(some 31), .mv (.t 0), none⟩,
    ⟨(some 32), .lenS (.t 31), none⟩,
    ⟨(some 33), .mv (.c (.int .i64 0)), none⟩] [0, 32, 33])
  (.block 0 (.loop l_rIsNumber_0)))
 (.seq (.reg [⟨(some 2), .mv (.c (.bool true)), none⟩] [2])
 .ret)))), [.tmp 2], 42⟩
theorem h_rIsNumber : compFn Tryd.prog k_rIsNumber 70 = some c_rIsNumber := by kernel_rfl
/-- damask/damasklaw01.awake -/
abbrev f_awake : FuncId := 12
def k_awake : Tab := [(0, [], []), (1, [], [1, 3]), (2, [], [1, 3, 5, 6]), (3, [], [1, 3, 5, 6, 7, 9]), (4, [], [0])]
def c_awake : AFn := ⟨(.seq (.reg [⟨(some 0), .mv (.c (.bool false)), none⟩] [])
 (.seq (.reg [⟨(some 11), .call (.f 9) [(.c (.str [102, 32, 120, 32, 61, 32, 120, 43, 43, 121]))], none⟩,
   ⟨(some 10), .mv (.t 11), none⟩,
   ⟨(some 12), .ext (.t 10) 0, none⟩,
   ⟨(some 13), .ext (.t 10) 1, none⟩,
   ⟨(some 14), .ext (.t 10) 2, none⟩,
   ⟨(some 1), .mv (.t 12), none⟩,
   ⟨(some 2), .mv (.t 13), none⟩,
   ⟨(some 3), .mv (.t 14), none⟩] [1, 3])
 (.seq (.reg [⟨(some 16), .call (.f 9) [(.c (.str [48, 49]))], none⟩,
   ⟨(some 15), .mv (.t 16), none⟩,
   ⟨(some 17), .ext (.t 15) 0, none⟩,
   ⟨(some 18), .ext (.t 15) 1, none⟩,
   ⟨(some 19), .ext (.t 15) 2, none⟩,
   ⟨(some 4), .mv (.t 17), none⟩,
   ⟨(some 5), .mv (.t 18), none⟩,
   ⟨(some 6), .mv (.t 19), none⟩] [1, 3, 5, 6])
 (.seq (.reg [⟨(some 21), .call (.f 9) [(.c (.str [39, 90]))], none⟩,
   ⟨(some 20), .mv (.t 21), none⟩,
   ⟨(some 22), .ext (.t 20) 0, none⟩,
   ⟨(some 23), .ext (.t 20) 1, none⟩,
   ⟨(some 24), .ext (.t 20) 2, none⟩,
   ⟨(some 7), .mv (.t 22), none⟩,
   ⟨(some 8), .mv (.t 23), none⟩,
   ⟨(some 9), .mv (.t 24), none⟩] [1, 3, 5, 6, 7, 9])
 (.seq (.reg [⟨(some 25), .mv (.t 3), none⟩,
   ⟨(some 26), .bin .eql (.t 25) (.c (.int .i64 0)), none⟩,
   ⟨(some 27), .mv (.t 26), none⟩,
   ⟨(some 28), .mv (.t 1), (some (27, true))⟩,
   ⟨(some 29), .lenL (.t 28), (some (27, true))⟩,
   ⟨(some 30), .bin .eql (.t 29) (.c (.int .i64 7)), (some (27, true))⟩,
   ⟨(some 31), .pick (.t 27) (.t 30) (.c (.bool false)), none⟩,
   ⟨(some 32), .mv (.t 31), none⟩,
   ⟨(some 33), .mv (.t 1), (some (32, true))⟩,
   ⟨(some 34), .iaddr 3 (.t 33) (.c (.int .i64 4)), (some (32, true))⟩,
   ⟨(some 35), .load (some 3) (.t 34), (some (32, true))⟩,
   ⟨(some 36), .build [(.int .i64 0), (.str []), (.int .i64 0)] [(0, 1, (.c (.int .i64 3))), (1, 1, (.c (.str [43, 43]))), (2, 1, (.c (.int .i64 7)))], (some (32, true))⟩,
   ⟨(some 37), .sleq false [(0, .int), (1, .str), (2, .int)] (.t 35) (.t 36), (some (32, true))⟩,
   ⟨(some 38), .pick (.t 32) (.t 37) (.c (.bool false)), none⟩,
   ⟨(some 39), .mv (.t 38), none⟩,
   ⟨(some 40), .mv (.t 1), (some (39, true))⟩,
   ⟨(some 41), .iaddr 3 (.t 40) (.c (.int .i64 6)), (some (39, true))⟩,
   ⟨(some 42), .faddr 2 (.t 41), (some (39, true))⟩,
   ⟨(some 43), .load none (.t 42), (some (39, true))⟩,
   ⟨(some 44), .bin .eql (.t 43) (.c (.int .i64 10)), (some (39, true))⟩,
   ⟨(some 45), .pick (.t 39) (.t 44) (.c (.bool false)), none⟩,
   ⟨(some 46), .mv (.t 45), none⟩,
   ⟨(some 47), .mv (.t 6), (some (46, true))⟩,
   ⟨(some 48), .bin .eql (.t 47) (.c (.int .i64 4)), (some (46, true))⟩,
   ⟨(some 49), .pick (.t 46) (.t 48) (.c (.bool false)), none⟩,
   ⟨(some 50), .mv (.t 49), none⟩,
   ⟨(some 51), .mv (.t 5), (some (50, true))⟩,
   ⟨(some 52), .bin .eql (.t 51) (.c (.int .i64 0)), (some (50, true))⟩,
   ⟨(some 53), .pick (.t 50) (.t 52) (.c (.bool false)), none⟩,
   ⟨(some 54), .mv (.t 53), none⟩,
   ⟨(some 55), .mv (.t 9), (some (54, true))⟩,
   ⟨(some 56), .bin .eql (.t 55) (.c (.int .i64 0)), (some (54, true))⟩,
   ⟨(some 57), .pick (.t 54) (.t 56) (.c (.bool false)), none⟩,
   ⟨(some 58), .mv (.t 57), none⟩,
   ⟨(some 59), .mv (.t 7), (some (58, true))⟩,
   ⟨(some 60), .lenL (.t 59), (some (58, true))⟩,
   ⟨(some 61), .bin .eql (.t 60) (.c (.int .i64 3)), (some (58, true))⟩,
   ⟨(some 62), .pick (.t 58) (.t 61) (.c (.bool false)), none⟩,
   ⟨(some 63), .mv (.t 62), none⟩,
   ⟨(some 64), .mv (.t 7), (some (63, true))⟩,
   ⟨(some 65), .iaddr 3 (.t 64) (.c (.int .i64 0)), (some (63, true))⟩,
   ⟨(some 66), .faddr 0 (.t 65), (some (63, true))⟩,
   ⟨(some 67), .load none (.t 66), (some (63, true))⟩,
   ⟨(some 68), .bin .eql (.t 67) (.c (.int .i64 5)), (some (63, true))⟩,
   ⟨(some 69), .pick (.t 63) (.t 68) (.c (.bool false)), none⟩,
   ⟨(some 0), .mv (.t 69), none⟩] [0])
 .ret))))), [.tmp 0], 70⟩
theorem h_awake : compFn Tryd.prog k_awake 12 = some c_awake := by kernel_rfl
/-- damask/damasklaw01.LexisTokens -/
abbrev f_LawTokens : FuncId := 3
def k_LawTokens : Tab := [(0, [], [0]), (1, [], [0, 3, 4, 5]), (2, [], [3, 4, 5, 6, 7, 8]), (3, [], [2])]
def c_LawTokens : AFn := ⟨(.seq (.reg [⟨(some 2), .mv (.c (.bool false)), none⟩] [0])
 (.seq (.reg [⟨(some 10), .mv (.t 0), none⟩,
   ⟨(some 11), .call (.f 9) [(.t 10)], none⟩,
   ⟨(some 9), .mv (.t 11), none⟩,
   ⟨(some 12), .ext (.t 9) 0, none⟩,
   ⟨(some 13), .ext (.t 9) 1, none⟩,
   ⟨(some 14), .ext (.t 9) 2, none⟩,
   ⟨(some 3), .mv (.t 12), none⟩,
   ⟨(some 4), .mv (.t 13), none⟩,
   ⟨(some 5), .mv (.t 14), none⟩] [0, 3, 4, 5])
 (.seq (.reg [⟨(some 16), .mv (.t 0), none⟩,
   ⟨(some 17), .call (.f 10) [(.t 16)], none⟩,
   ⟨(some 15), .mv (.t 17), none⟩,
   ⟨(some 18), .ext (.t 15) 0, none⟩,
   ⟨(some 19), .ext (.t 15) 1, none⟩,
   ⟨(some 20), .ext (.t 15) 2, none⟩,
   ⟨(some 6), .mv (.t 18), none⟩,
   ⟨(some 7), .mv (.t 19), none⟩,
   ⟨(some 8), .mv (.t 20), none⟩] [3, 4, 5, 6, 7, 8])
 (.seq (.reg [⟨(some 21), .mv (.t 5), none⟩,
   ⟨(some 22), .mv (.t 8), none⟩,
   ⟨(some 23), .bin .eql (.t 21) (.t 22), none⟩,
   ⟨(some 24), .mv (.t 23), none⟩,
   ⟨(some 25), .mv (.t 4), (some (24, true))⟩,
   ⟨(some 26), .mv (.t 7), (some (24, true))⟩,
   ⟨(some 27), .bin .eql (.t 25) (.t 26), (some (24, true))⟩,
   ⟨(some 28), .pick (.t 24) (.t 27) (.c (.bool false)), none⟩,
   ⟨(some 29), .mv (.t 28), none⟩,
   ⟨(some 30), .mv (.t 3), (some (29, true))⟩,
   ⟨(some 31), .mv (.t 6), (some (29, true))⟩,
   ⟨(some 32), .call (.f 11) [(.t 30), (.t 31), (.c (.bool true))], (some (29, true))⟩,
   ⟨(some 33), .pick (.t 29) (.t 32) (.c (.bool false)), none⟩,
   ⟨(some 34), .mv (.t 33), none⟩,
   ⟨(some 35), .call (.f 12) [], (some (34, true))⟩,
   ⟨(some 36), .pick (.t 34) (.t 35) (.c (.bool false)), none⟩,
   ⟨(some 2), .mv (.t 36), none⟩] [2])
 .ret)))), [.tmp 2], 37⟩
theorem h_LawTokens : compFn Tryd.prog k_LawTokens 3 = some c_LawTokens := by kernel_rfl
/-- damask/damasklaw01.LexisComment -/
abbrev f_LawComment : FuncId := 4
def k_LawComment : Tab := [(0, [], [0, 1, 2]), (1, [], [0, 1, 2, 7, 9]), (2, [], [0, 1, 2, 7, 33]), (3, [], [6]), (4, [], [0, 1, 2, 7, 37]), (5, [], [6]), (6, [], [0, 1, 2, 7]), (7, [], [0, 1, 2, 7, 73]), (8, [], [6]), (9, [], [0, 1, 2, 7, 10]), (10, [], [0, 1, 2, 7, 10, 11]), (11, [], [0, 1, 2, 7, 10, 11, 96]), (13, [], [0, 1, 2, 7, 10, 11, 102]), (14, [], [0, 1, 2, 7, 10, 11]), (12, [], [0, 1, 2, 7, 10, 11]), (15, [], [0, 1, 7, 12]), (16, [0, 1, 2, 3, 4, 5, 6, 7, 8, 9, 10, 11, 12, 13, 14, 15, 16, 17, 18, 19, 20, 21, 22, 23, 24], [1, 7, 12, 13, 15]), (17, [], [1, 7, 12, 13, 142]), (18, [], [6]), (19, [], [1, 7, 12, 13, 144, 145]), (20, [], [1, 7, 12, 13, 144, 145, 146]), (21, [], [1, 7, 12, 13, 16, 144, 145]), (22, [], [1, 7, 12, 13, 16, 17, 144, 145]), (23, [], [1, 7, 12, 13, 16, 17, 144, 145, 155]), (24, [], [1, 7, 12, 13, 16, 17, 144, 145]), (25, [], [1, 7, 12, 13, 144, 145, 166]), (26, [], [6]), (27, [], [1, 7, 12, 13, 144, 145]), (28, [], [6]), (999999, [33, 37, 73, 96, 102, 142, 146, 155, 166], [])]
def l_LawComment_0 : ACode := (.seq (.seq (.reg [⟨(some 93), .mv (.t 11), none⟩,
    ⟨(some 94), .mv (.t 2), none⟩,
    ⟨(some 95), .lenS (.t 94), none⟩,
    ⟨(some 96), .bin .lss (.t 93) (.t 95), none⟩] [0, 1, 2, 7, 10, 11, 96])
  (.cond (.t 96) true
   .skip
   (.exit 0)))
 (.seq (.block 1 (.seq (.reg [⟨(some 99), .mv (.t 2), none⟩,
     ⟨(some 100), .mv (.t 11), none⟩,
     ⟨(some 101), .ixS (.t 99) (.t 100), none⟩,
     ⟨(some 102), .bin .neq (.t 101) (.c (.int .u8 10)), none⟩] [0, 1, 2, 7, 10, 11, 102])
   (.cond (.t 102) true
    (.reg [⟨(some 103), .mv (.t 10), none⟩,
     ⟨(some 104), .mv (.t 2), none⟩,
     ⟨(some 105), .mv (.t 11), none⟩,
     ⟨(some 106), .mv (.t 11), none⟩,
     ⟨(some 107), .bin .add (.t 106) (.c (.int .i64 1)), none⟩,
     ⟨(some 108), .slS (.t 104) (some (.t 105)) (some (.t 107)), none⟩,
     ⟨(some 109), .bin .add (.t 103) (.t 108), none⟩,
     ⟨(some 10), .mv (.t 109), none⟩] [0, 1, 2, 7, 10, 11])
    .skip)))
 (.reg [⟨(some 97), .mv (.t 11), none⟩,
  ⟨(some 98), .bin .add (.t 97) (.c (.int .i64 1)), none⟩,
  ⟨(some 11), .mv (.t 98), none⟩] [0, 1, 2, 7, 10, 11])))
def l_LawComment_1 : ACode := (.seq (.reg [⟨(some 146), .bin .lss (.t 145) (.t 144), none⟩] [1, 7, 12, 13, 144, 145, 146])
 (.seq (.cond (.t 146) true
   .skip
   (.exit 2))
 (.seq (.block 3 (.seq (.reg [⟨(some 147), .mv (.t 145), none⟩,
     ⟨(some 16), .mv (.t 147), none⟩] [1, 7, 12, 13, 16, 144, 145])
   (.seq (.reg [⟨(some 148), .mv (.t 7), none⟩,
     ⟨(some 149), .mv (.t 16), none⟩,
     ⟨(some 150), .iaddr 3 (.t 148) (.t 149), none⟩,
     ⟨(some 151), .faddr 2 (.t 150), none⟩,
     ⟨(some 152), .load none (.t 151), none⟩,
     ⟨(some 17), .mv (.t 152), none⟩] [1, 7, 12, 13, 16, 17, 144, 145])
   (.seq (.seq (.reg [⟨(some 153), .mv (.t 16), none⟩,
      ⟨(some 154), .mv (.t 1), none⟩,
      ⟨(some 155), .bin .geq (.t 153) (.t 154), none⟩] [1, 7, 12, 13, 16, 17, 144, 145, 155])
    (.cond (.t 155) true
     (.reg [⟨(some 156), .mv (.t 17), none⟩,
      ⟨(some 157), .mv (.t 12), none⟩,
      ⟨(some 158), .lenS (.t 157), none⟩,
      ⟨(some 159), .bin .add (.t 156) (.t 158), none⟩,
      ⟨(some 17), .mv (.t 159), none⟩] [1, 7, 12, 13, 16, 17, 144, 145])
     .skip))
   (.seq (.reg [⟨(some 160), .mv (.t 13), none⟩,
     ⟨(some 161), .mv (.t 16), none⟩,
     ⟨(some 162), .iaddr 3 (.t 160) (.t 161), none⟩,
     ⟨(some 163), .faddr 2 (.t 162), none⟩,
     ⟨(some 164), .load none (.t 163), none⟩,
     ⟨(some 165), .mv (.t 17), none⟩,
     ⟨(some 166), .bin .neq (.t 164) (.t 165), none⟩] [1, 7, 12, 13, 144, 145, 166])
   (.cond (.t 166) true
    (.seq (.reg [⟨(some 6), .mv (.c (.bool false)), none⟩] [6])
    .ret)
    .skip))))))
 (.reg [⟨(some 167), .bin .add (.t 145) (.c (.int .i64 1)), none⟩,
  ⟨(some 145), .mv (.t 167), none⟩] [1, 7, 12, 13, 144, 145]))))
def c_LawComment : AFn := ⟨(.seq (.reg [⟨(some 6), .mv (.c (.bool false)), none⟩] [0, 1, 2])
 (.seq (.reg [⟨(some 19), .mv (.t 0), none⟩,
   ⟨(some 20), .call (.f 9) [(.t 19)], none⟩,
   ⟨(some 18), .mv (.t 20), none⟩,
   ⟨(some 21), .ext (.t 18) 0, none⟩,
   ⟨(some 22), .ext (.t 18) 1, none⟩,
   ⟨(some 23), .ext (.t 18) 2, none⟩,
   ⟨(some 7), .mv (.t 21), none⟩,
   ⟨(some 8), .mv (.t 22), none⟩,
   ⟨(some 9), .mv (.t 23), none⟩] [0, 1, 2, 7, 9])
 (.seq (.seq (.reg [⟨(some 24), .mv (.t 9), none⟩,
    ⟨(some 25), .bin .neq (.t 24) (.c (.int .i64 0)), none⟩,
    ⟨(some 26), .mv (.t 25), none⟩,
    ⟨(some 27), .mv (.t 0), (some (26, false))⟩,
    ⟨(some 28), .lenS (.t 27), (some (26, false))⟩,
    ⟨(some 29), .mv (.t 2), (some (26, false))⟩,
    ⟨(some 30), .lenS (.t 29), (some (26, false))⟩,
    ⟨(some 31), .bin .add (.t 28) (.t 30), (some (26, false))⟩,
    ⟨(some 32), .bin .gtr (.t 31) (.c (.int .i64 11991)), (some (26, false))⟩,
    ⟨(some 33), .pick (.t 26) (.c (.bool true)) (.t 32), none⟩] [0, 1, 2, 7, 33])
  (.cond (.t 33) true
   (.seq (.reg [⟨(some 34), .call (.f 12) [], none⟩,
     ⟨(some 6), .mv (.t 34), none⟩] [6])
   .ret)
   .skip))
 (.seq (.seq (.reg [⟨(some 35), .mv (.t 7), none⟩,
    ⟨(some 36), .lenL (.t 35), none⟩,
    ⟨(some 37), .bin .eql (.t 36) (.c (.int .i64 0)), none⟩] [0, 1, 2, 7, 37])
  (.cond (.t 37) true
   (.seq (.reg [⟨(some 6), .mv (.c (.bool false)), none⟩] [6])
   .ret)
   .skip))
 (.seq (.reg [⟨(some 38), .mv (.t 1), none⟩,
   ⟨(some 39), .cint .u64 (.t 38), none⟩,
   ⟨(some 40), .mv (.t 7), none⟩,
   ⟨(some 41), .lenL (.t 40), none⟩,
   ⟨(some 42), .cint .u64 (.t 41), none⟩,
   ⟨(some 43), .bin .rem (.t 39) (.t 42), none⟩,
   ⟨(some 44), .cint .i64 (.t 43), none⟩,
   ⟨(some 1), .mv (.t 44), none⟩] [0, 1, 2, 7])
 (.seq (.seq (.reg [⟨(some 45), .mv (.t 7), none⟩,
    ⟨(some 46), .mv (.t 1), none⟩,
    ⟨(some 47), .iaddr 3 (.t 45) (.t 46), none⟩,
    ⟨(some 48), .faddr 2 (.t 47), none⟩,
    ⟨(some 49), .load none (.t 48), none⟩,
    ⟨(some 50), .bin .lss (.t 49) (.c (.int .i64 0)), none⟩,
    ⟨(some 51), .mv (.t 50), none⟩,
    ⟨(some 52), .mv (.t 7), (some (51, false))⟩,
    ⟨(some 53), .mv (.t 1), (some (51, false))⟩,
    ⟨(some 54), .iaddr 3 (.t 52) (.t 53), (some (51, false))⟩,
    ⟨(some 55), .faddr 2 (.t 54), (some (51, false))⟩,
    ⟨(some 56), .load none (.t 55), (some (51, false))⟩,
    ⟨(some 57), .mv (.t 0), (some (51, false))⟩,
    ⟨(some 58), .lenS (.t 57), (some (51, false))⟩,
    ⟨(some 59), .bin .gtr (.t 56) (.t 58), (some (51, false))⟩,
    ⟨(some 60), .pick (.t 51) (.c (.bool true)) (.t 59), none⟩,
    ⟨(some 61), .mv (.t 60), none⟩,
    ⟨(some 62), .mv (.t 1), (some (61, false))⟩,
    ⟨(some 63), .bin .gtr (.t 62) (.c (.int .i64 0)), (some (61, false))⟩,
    ⟨(some 64), .mv (.t 63), (some (61, false))⟩,
    ⟨(some 65), .mv (.t 7), (some (64, true))⟩,
    ⟨(some 66), .mv (.t 1), (some (64, true))⟩,
    ⟨(some 67), .bin .sub (.t 66) (.c (.int .i64 1)), (some (64, true))⟩,
    ⟨(some 68), .iaddr 3 (.t 65) (.t 67), (some (64, true))⟩,
    ⟨(some 69), .faddr 1 (.t 68), (some (64, true))⟩,
    ⟨(some 70), .load none (.t 69), (some (64, true))⟩,
    ⟨(some 71), .bin .eql (.t 70) (.c (.str [39])), (some (64, true))⟩,
    ⟨(some 72), .pick (.t 64) (.t 71) (.c (.bool false)), (some (61, false))⟩,
    ⟨(some 73), .pick (.t 61) (.c (.bool true)) (.t 72), none⟩] [0, 1, 2, 7, 73])
  (.cond (.t 73) true
   (.seq (.reg [⟨(some 74), .mv (.t 7), none⟩,
     ⟨(some 75), .mv (.t 1), none⟩,
     ⟨(some 76), .iaddr 3 (.t 74) (.t 75), none⟩,
     ⟨(some 77), .faddr 2 (.t 76), none⟩,
     ⟨(some 78), .load none (.t 77), none⟩,
     ⟨(some 79), .bin .geq (.t 78) (.c (.int .i64 0)), none⟩,
     ⟨(some 80), .mv (.t 79), none⟩,
     ⟨(some 81), .mv (.t 7), (some (80, true))⟩,
     ⟨(some 82), .mv (.t 1), (some (80, true))⟩,
     ⟨(some 83), .iaddr 3 (.t 81) (.t 82), (some (80, true))⟩,
     ⟨(some 84), .faddr 2 (.t 83), (some (80, true))⟩,
     ⟨(some 85), .load none (.t 84), (some (80, true))⟩,
     ⟨(some 86), .mv (.t 0), (some (80, true))⟩,
     ⟨(some 87), .lenS (.t 86), (some (80, true))⟩,
     ⟨(some 88), .bin .leq (.t 85) (.t 87), (some (80, true))⟩,
     ⟨(some 89), .pick (.t 80) (.t 88) (.c (.bool false)), none⟩,
     ⟨(some 90), .mv (.t 89), none⟩,
     ⟨(some 91), .call (.f 12) [], (some (90, true))⟩,
     ⟨(some 92), .pick (.t 90) (.t 91) (.c (.bool false)), none⟩,
     ⟨(some 6), .mv (.t 92), none⟩] [6])
   .ret)
   .skip))
 (.seq (.reg [⟨(some 10), .mv (.c (.str [])), none⟩] [0, 1, 2, 7, 10])
 (.seq (.seq (.reg [⟨(some 11), .mv (.c (.int .i64 0)), none⟩] [0, 1, 2, 7, 10, 11])
  (.block 0 (.loop l_LawComment_0)))
 (.seq (.reg [⟨(some 110), .mv (.t 10), none⟩,
   ⟨(some 111), .bin .add (.c (.str [9, 32, 45, 45, 32])) (.t 110), none⟩,
   ⟨(some 112), .bin .add (.t 111) (.c (.str [10, 13])), none⟩,
   ⟨(some 12), .mv (.t 112), none⟩] [0, 1, 7, 12])
 (.seq (.dreg [⟨⟨(some 114), .mv (.t 0), none⟩, []⟩,
   ⟨⟨(some 115), .mv (.t 7), none⟩, []⟩,
   ⟨⟨(some 116), .mv (.t 1), none⟩, []⟩,
   ⟨⟨(some 117), .iaddr 3 (.t 115) (.t 116), none⟩, []⟩,
   ⟨⟨(some 118), .faddr 2 (.t 117), none⟩, []⟩,
   ⟨⟨(some 119), .load none (.t 118), none⟩, []⟩,
   ⟨⟨(some 120), .slS (.t 114) none (some (.t 119)), none⟩, []⟩,
   ⟨⟨(some 121), .mv (.t 12), none⟩, []⟩,
   ⟨⟨(some 122), .bin .add (.t 120) (.t 121), none⟩, []⟩,
   ⟨⟨(some 123), .mv (.t 0), none⟩, []⟩,
   ⟨⟨(some 124), .mv (.t 7), none⟩, []⟩,
   ⟨⟨(some 125), .mv (.t 1), none⟩, []⟩,
   ⟨⟨(some 126), .iaddr 3 (.t 124) (.t 125), none⟩, []⟩,
   ⟨⟨(some 127), .faddr 2 (.t 126), none⟩, []⟩,
   ⟨⟨(some 128), .load none (.t 127), none⟩, []⟩,
   ⟨⟨(some 129), .slS (.t 123) (some (.t 128)) none, none⟩, []⟩,
   ⟨⟨(some 130), .bin .add (.t 122) (.t 129), none⟩, []⟩,
   ⟨⟨(some 131), .call (.f 9) [(.t 130)], none⟩, []⟩,
   ⟨⟨(some 113), .mv (.t 131), none⟩, []⟩,
   ⟨⟨(some 132), .ext (.t 113) 0, none⟩, []⟩,
   ⟨⟨(some 133), .ext (.t 113) 1, none⟩, []⟩,
   ⟨⟨(some 134), .ext (.t 113) 2, none⟩, []⟩,
   ⟨⟨(some 13), .mv (.t 132), none⟩, []⟩,
   ⟨⟨(some 14), .mv (.t 133), none⟩, []⟩,
   ⟨⟨(some 15), .mv (.t 134), none⟩, []⟩] [1, 7, 12, 13, 15])
 (.seq (.seq (.reg [⟨(some 135), .mv (.t 15), none⟩,
    ⟨(some 136), .bin .neq (.t 135) (.c (.int .i64 0)), none⟩,
    ⟨(some 137), .mv (.t 136), none⟩,
    ⟨(some 138), .mv (.t 7), (some (137, false))⟩,
    ⟨(some 139), .mv (.t 13), (some (137, false))⟩,
    ⟨(some 140), .call (.f 11) [(.t 138), (.t 139), (.c (.bool false))], (some (137, false))⟩,
    ⟨(some 141), .not (.t 140), (some (137, false))⟩,
    ⟨(some 142), .pick (.t 137) (.c (.bool true)) (.t 141), none⟩] [1, 7, 12, 13, 142])
  (.cond (.t 142) true
   (.seq (.reg [⟨(some 6), .mv (.c (.bool false)), none⟩] [6])
   .ret)
   .skip))
 (.seq (.seq (.reg [⟨(some 143), .mv (.t 7), none⟩,
    ⟨(some 144), .lenL (.t 143), none⟩,
    ⟨(some 145), .mv (.c (.int .i64 0)), none⟩] [1, 7, 12, 13, 144, 145])
  (.block 2 (.loop l_LawComment_1)))
 (.seq (.reg [⟨(some 168), .call (.f 12) [], none⟩,
   ⟨(some 6), .mv (.t 168), none⟩] [6])
 .ret))))))))))))), [.tmp 6], 169⟩
theorem h_LawComment : compFn Tryd.prog k_LawComment 4 = some c_LawComment := by kernel_rfl
/-- damask/damasklaw01.LexisNames -/
abbrev f_LawNames : FuncId := 5
def k_LawNames : Tab := [(0, [], [0]), (1, [], [2])]
def c_LawNames : AFn := ⟨(.seq (.reg [⟨(some 2), .mv (.c (.bool false)), none⟩] [0])
 (.seq (.reg [⟨(some 3), .mv (.t 0), none⟩,
   ⟨(some 4), .call (.f 13) [(.t 3)], none⟩,
   ⟨(some 5), .mv (.t 0), none⟩,
   ⟨(some 6), .call (.f 14) [(.t 5)], none⟩,
   ⟨(some 7), .beq false (.t 4) (.t 6), none⟩,
   ⟨(some 8), .mv (.t 7), none⟩,
   ⟨(some 9), .mv (.t 0), (some (8, true))⟩,
   ⟨(some 10), .call (.f 15) [(.t 9)], (some (8, true))⟩,
   ⟨(some 11), .mv (.t 0), (some (8, true))⟩,
   ⟨(some 12), .call (.f 16) [(.t 11)], (some (8, true))⟩,
   ⟨(some 13), .beq false (.t 10) (.t 12), (some (8, true))⟩,
   ⟨(some 14), .pick (.t 8) (.t 13) (.c (.bool false)), none⟩,
   ⟨(some 15), .mv (.t 14), none⟩,
   ⟨(some 16), .mv (.t 0), (some (15, true))⟩,
   ⟨(some 17), .call (.f 17) [(.t 16)], (some (15, true))⟩,
   ⟨(some 18), .mv (.t 0), (some (15, true))⟩,
   ⟨(some 19), .call (.f 18) [(.t 18)], (some (15, true))⟩,
   ⟨(some 20), .beq false (.t 17) (.t 19), (some (15, true))⟩,
   ⟨(some 21), .pick (.t 15) (.t 20) (.c (.bool false)), none⟩,
   ⟨(some 22), .mv (.t 21), none⟩,
   ⟨(some 23), .call (.f 20) [], (some (22, true))⟩,
   ⟨(some 24), .call (.f 21) [], (some (22, true))⟩,
   ⟨(some 25), .call (.f 19) [(.t 23), (.t 24)], (some (22, true))⟩,
   ⟨(some 26), .pick (.t 22) (.t 25) (.c (.bool false)), none⟩,
   ⟨(some 27), .mv (.t 26), none⟩,
   ⟨(some 28), .call (.f 12) [], (some (27, true))⟩,
   ⟨(some 29), .pick (.t 27) (.t 28) (.c (.bool false)), none⟩,
   ⟨(some 2), .mv (.t 29), none⟩] [2])
 .ret)), [.tmp 2], 30⟩
theorem h_LawNames : compFn Tryd.prog k_LawNames 5 = some c_LawNames := by kernel_rfl
/-- damask/damasklaw01.LexisPlaces -/
abbrev f_LawPlaces : FuncId := 6
def k_LawPlaces : Tab := [(0, [], [0, 1]), (1, [], [0, 1, 5, 6, 7]), (2, [], [5, 6, 7, 8, 9, 10]), (3, [], [4])]
def c_LawPlaces : AFn := ⟨(.seq (.reg [⟨(some 4), .mv (.c (.bool false)), none⟩] [0, 1])
 (.seq (.reg [⟨(some 12), .mv (.t 0), none⟩,
   ⟨(some 13), .mv (.t 1), none⟩,
   ⟨(some 14), .call (.f 22) [(.t 12), (.t 13)], none⟩,
   ⟨(some 11), .mv (.t 14), none⟩,
   ⟨(some 15), .ext (.t 11) 0, none⟩,
   ⟨(some 16), .ext (.t 11) 1, none⟩,
   ⟨(some 17), .ext (.t 11) 2, none⟩,
   ⟨(some 5), .mv (.t 15), none⟩,
   ⟨(some 6), .mv (.t 16), none⟩,
   ⟨(some 7), .mv (.t 17), none⟩] [0, 1, 5, 6, 7])
 (.seq (.reg [⟨(some 19), .mv (.t 0), none⟩,
   ⟨(some 20), .mv (.t 1), none⟩,
   ⟨(some 21), .call (.f 23) [(.t 19), (.t 20)], none⟩,
   ⟨(some 18), .mv (.t 21), none⟩,
   ⟨(some 22), .ext (.t 18) 0, none⟩,
   ⟨(some 23), .ext (.t 18) 1, none⟩,
   ⟨(some 24), .ext (.t 18) 2, none⟩,
   ⟨(some 8), .mv (.t 22), none⟩,
   ⟨(some 9), .mv (.t 23), none⟩,
   ⟨(some 10), .mv (.t 24), none⟩] [5, 6, 7, 8, 9, 10])
 (.seq (.reg [⟨(some 25), .mv (.t 5), none⟩,
   ⟨(some 26), .mv (.t 8), none⟩,
   ⟨(some 27), .bin .eql (.t 25) (.t 26), none⟩,
   ⟨(some 28), .mv (.t 27), none⟩,
   ⟨(some 29), .mv (.t 6), (some (28, true))⟩,
   ⟨(some 30), .mv (.t 9), (some (28, true))⟩,
   ⟨(some 31), .bin .eql (.t 29) (.t 30), (some (28, true))⟩,
   ⟨(some 32), .pick (.t 28) (.t 31) (.c (.bool false)), none⟩,
   ⟨(some 33), .mv (.t 32), none⟩,
   ⟨(some 34), .mv (.t 10), (some (33, true))⟩,
   ⟨(some 35), .mv (.t 7), (some (33, true))⟩,
   ⟨(some 36), .bin .eql (.t 35) (.c (.int .i64 0)), (some (33, true))⟩,
   ⟨(some 37), .beq false (.t 34) (.t 36), (some (33, true))⟩,
   ⟨(some 38), .pick (.t 33) (.t 37) (.c (.bool false)), none⟩,
   ⟨(some 39), .mv (.t 38), none⟩,
   ⟨(some 40), .mv (.t 10), (some (39, true))⟩,
   ⟨(some 41), .mv (.t 40), (some (39, true))⟩,
   ⟨(some 42), .mv (.t 7), (some (41, false))⟩,
   ⟨(some 43), .bin .eql (.t 42) (.c (.int .i64 2)), (some (41, false))⟩,
   ⟨(some 44), .pick (.t 41) (.c (.bool true)) (.t 43), (some (39, true))⟩,
   ⟨(some 45), .pick (.t 39) (.t 44) (.c (.bool false)), none⟩,
   ⟨(some 46), .mv (.t 45), none⟩,
   ⟨(some 47), .call (.f 12) [], (some (46, true))⟩,
   ⟨(some 48), .pick (.t 46) (.t 47) (.c (.bool false)), none⟩,
   ⟨(some 4), .mv (.t 48), none⟩] [4])
 .ret)))), [.tmp 4], 49⟩
theorem h_LawPlaces : compFn Tryd.prog k_LawPlaces 6 = some c_LawPlaces := by kernel_rfl
/-- damask/damasklaw01.LexisJoins -/
abbrev f_LawJoins : FuncId := 7
def k_LawJoins : Tab := [(0, [], [0]), (1, [], [0, 3, 4]), (2, [], [3, 4, 5, 6]), (3, [], [2])]
def c_LawJoins : AFn := ⟨(.seq (.reg [⟨(some 2), .mv (.c (.bool false)), none⟩] [0])
 (.seq (.reg [⟨(some 8), .bsl 3 [], none⟩,
   ⟨(some 9), .mv (.t 0), none⟩,
   ⟨(some 10), .app 3 32 33 (.t 8) (.t 9), none⟩,
   ⟨(some 11), .call (.f 24) [(.t 10)], none⟩,
   ⟨(some 7), .mv (.t 11), none⟩,
   ⟨(some 12), .ext (.t 7) 0, none⟩,
   ⟨(some 13), .ext (.t 7) 1, none⟩,
   ⟨(some 3), .mv (.t 12), none⟩,
   ⟨(some 4), .mv (.t 13), none⟩] [0, 3, 4])
 (.seq (.reg [⟨(some 15), .mv (.t 0), none⟩,
   ⟨(some 16), .call (.f 25) [(.t 15)], none⟩,
   ⟨(some 14), .mv (.t 16), none⟩,
   ⟨(some 17), .ext (.t 14) 0, none⟩,
   ⟨(some 18), .ext (.t 14) 1, none⟩,
   ⟨(some 5), .mv (.t 17), none⟩,
   ⟨(some 6), .mv (.t 18), none⟩] [3, 4, 5, 6])
 (.seq (.reg [⟨(some 19), .mv (.t 3), none⟩,
   ⟨(some 20), .mv (.t 5), none⟩,
   ⟨(some 21), .bin .eql (.t 19) (.t 20), none⟩,
   ⟨(some 22), .mv (.t 21), none⟩,
   ⟨(some 23), .mv (.t 6), (some (22, true))⟩,
   ⟨(some 24), .mv (.t 4), (some (22, true))⟩,
   ⟨(some 25), .bin .eql (.t 24) (.c (.int .i64 0)), (some (22, true))⟩,
   ⟨(some 26), .beq false (.t 23) (.t 25), (some (22, true))⟩,
   ⟨(some 27), .pick (.t 22) (.t 26) (.c (.bool false)), none⟩,
   ⟨(some 28), .mv (.t 27), none⟩,
   ⟨(some 29), .mv (.t 6), (some (28, true))⟩,
   ⟨(some 30), .mv (.t 29), (some (28, true))⟩,
   ⟨(some 31), .mv (.t 4), (some (30, false))⟩,
   ⟨(some 32), .bin .eql (.t 31) (.c (.int .i64 2)), (some (30, false))⟩,
   ⟨(some 33), .pick (.t 30) (.c (.bool true)) (.t 32), (some (28, true))⟩,
   ⟨(some 34), .pick (.t 28) (.t 33) (.c (.bool false)), none⟩,
   ⟨(some 35), .mv (.t 34), none⟩,
   ⟨(some 36), .call (.f 12) [], (some (35, true))⟩,
   ⟨(some 37), .pick (.t 35) (.t 36) (.c (.bool false)), none⟩,
   ⟨(some 2), .mv (.t 37), none⟩] [2])
 .ret)))), [.tmp 2], 38⟩
theorem h_LawJoins : compFn Tryd.prog k_LawJoins 7 = some c_LawJoins := by kernel_rfl
/-- damask/damasklaw01.LexisBack -/
abbrev f_LawBack : FuncId := 8
def k_LawBack : Tab := [(0, [], [0]), (1, [], [0, 3, 5]), (2, [], [0, 3, 5, 22]), (3, [], [2]), (4, [], [0, 3, 6]), (5, [], [0, 3, 6, 42, 43, 44]), (6, [], [0, 3, 6, 42, 43, 44, 45]), (7, [], [0, 3, 6, 7, 8, 42, 43, 44]), (8, [], [0, 3, 6, 7, 8, 9, 42, 43, 44]), (9, [0, 1, 2, 3, 4, 5, 6, 7, 8, 9, 10, 11, 12, 13, 14, 15, 16, 17, 18, 19, 20, 21, 22, 23, 24, 25, 26, 27, 28, 29, 30, 31, 32, 33, 34, 35, 36, 37, 38, 39], [0, 3, 9, 42, 43, 44, 94]), (10, [], [2]), (11, [], [0, 3, 6, 42, 43, 44]), (12, [], [0, 3, 6, 42, 43, 44]), (13, [], [0, 3, 10, 11]), (14, [], [3, 10, 120]), (15, [], [2]), (16, [], [3, 10, 12, 14]), (17, [], [3, 12, 14, 129]), (18, [], [2]), (19, [], [2]), (999999, [22, 45, 94, 120, 129], [])]
def l_LawBack_0 : ACode := (.seq (.reg [⟨(some 45), .bin .lss (.t 44) (.t 43), none⟩] [0, 3, 6, 42, 43, 44, 45])
 (.seq (.cond (.t 45) true
   .skip
   (.exit 0))
 (.seq (.block 1 (.seq (.reg [⟨(some 46), .mv (.t 44), none⟩,
     ⟨(some 47), .iaddr 3 (.t 42) (.t 44), none⟩,
     ⟨(some 48), .load (some 3) (.t 47), none⟩,
     ⟨(some 8), .alloc [(.int .i64 0), (.str []), (.int .i64 0)], none⟩,
     ⟨(some 7), .mv (.t 46), none⟩,
     ⟨none, .store 3 (.t 8) (.t 48), none⟩] [0, 3, 6, 7, 8, 42, 43, 44])
   (.seq (.reg [⟨(some 49), .faddr 2 (.t 8), none⟩,
     ⟨(some 50), .load none (.t 49), none⟩,
     ⟨(some 51), .faddr 1 (.t 8), none⟩,
     ⟨(some 52), .load none (.t 51), none⟩,
     ⟨(some 53), .lenS (.t 52), none⟩,
     ⟨(some 54), .bin .add (.t 50) (.t 53), none⟩,
     ⟨(some 9), .mv (.t 54), none⟩] [0, 3, 6, 7, 8, 9, 42, 43, 44])
   (.seq (.seq (.dreg [⟨⟨(some 55), .faddr 2 (.t 8), none⟩, []⟩,
      ⟨⟨(some 56), .load none (.t 55), none⟩, []⟩,
      ⟨⟨(some 57), .mv (.t 6), none⟩, []⟩,
      ⟨⟨(some 58), .bin .lss (.t 56) (.t 57), none⟩, []⟩,
      ⟨⟨(some 59), .mv (.t 58), none⟩, []⟩,
      ⟨⟨(some 60), .mv (.t 9), (some (59, false))⟩, []⟩,
      ⟨⟨(some 61), .mv (.t 0), (some (59, false))⟩, []⟩,
      ⟨⟨(some 62), .lenS (.t 61), (some (59, false))⟩, []⟩,
      ⟨⟨(some 63), .bin .gtr (.t 60) (.t 62), (some (59, false))⟩, []⟩,
      ⟨⟨(some 64), .pick (.t 59) (.c (.bool true)) (.t 63), none⟩, []⟩,
      ⟨⟨(some 65), .mv (.t 64), none⟩, []⟩,
      ⟨⟨(some 66), .mv (.t 0), (some (65, false))⟩, []⟩,
      ⟨⟨(some 67), .faddr 2 (.t 8), (some (65, false))⟩, []⟩,
      ⟨⟨(some 68), .load none (.t 67), (some (65, false))⟩, []⟩,
      ⟨⟨(some 69), .mv (.t 9), (some (65, false))⟩, []⟩,
      ⟨⟨(some 70), .slS (.t 66) (some (.t 68)) (some (.t 69)), (some (65, false))⟩, []⟩,
      ⟨⟨(some 71), .faddr 1 (.t 8), (some (65, false))⟩, []⟩,
      ⟨⟨(some 72), .load none (.t 71), (some (65, false))⟩, []⟩,
      ⟨⟨(some 73), .bin .neq (.t 70) (.t 72), (some (65, false))⟩, []⟩,
      ⟨⟨(some 74), .pick (.t 65) (.c (.bool true)) (.t 73), none⟩, []⟩,
      ⟨⟨(some 75), .mv (.t 74), none⟩, []⟩,
      ⟨⟨(some 76), .faddr 0 (.t 8), (some (75, false))⟩, []⟩,
      ⟨⟨(some 77), .load none (.t 76), (some (75, false))⟩, []⟩,
      ⟨⟨(some 78), .bin .eql (.t 77) (.c (.int .i64 7)), (some (75, false))⟩, []⟩,
      ⟨⟨(some 79), .mv (.t 7), (some (75, false))⟩, []⟩,
      ⟨⟨(some 80), .mv (.t 3), (some (75, false))⟩, []⟩,
      ⟨⟨(some 81), .lenL (.t 80), (some (75, false))⟩, []⟩,
      ⟨⟨(some 82), .bin .sub (.t 81) (.c (.int .i64 1)), (some (75, false))⟩, []⟩,
      ⟨⟨(some 83), .bin .eql (.t 79) (.t 82), (some (75, false))⟩, []⟩,
      ⟨⟨(some 84), .beq true (.t 78) (.t 83), (some (75, false))⟩, []⟩,
      ⟨⟨(some 85), .pick (.t 75) (.c (.bool true)) (.t 84), none⟩, []⟩,
      ⟨⟨(some 86), .mv (.t 85), none⟩, []⟩,
      ⟨⟨(some 87), .faddr 1 (.t 8), (some (86, false))⟩, []⟩,
      ⟨⟨(some 88), .load none (.t 87), (some (86, false))⟩, []⟩,
      ⟨⟨(some 89), .bin .eql (.t 88) (.c (.str [])), (some (86, false))⟩, []⟩,
      ⟨⟨(some 90), .faddr 0 (.t 8), (some (86, false))⟩, []⟩,
      ⟨⟨(some 91), .load none (.t 90), (some (86, false))⟩, []⟩,
      ⟨⟨(some 92), .bin .eql (.t 91) (.c (.int .i64 7)), (some (86, false))⟩, []⟩,
      ⟨⟨(some 93), .beq true (.t 89) (.t 92), (some (86, false))⟩, []⟩,
      ⟨⟨(some 94), .pick (.t 86) (.c (.bool true)) (.t 93), none⟩, []⟩] [0, 3, 9, 42, 43, 44, 94])
    (.cond (.t 94) true
     (.seq (.reg [⟨(some 2), .mv (.c (.bool false)), none⟩] [2])
     .ret)
     .skip))
   (.reg [⟨(some 95), .mv (.t 9), none⟩,
    ⟨(some 6), .mv (.t 95), none⟩] [0, 3, 6, 42, 43, 44])))))
 (.reg [⟨(some 96), .bin .add (.t 44) (.c (.int .i64 1)), none⟩,
  ⟨(some 44), .mv (.t 96), none⟩] [0, 3, 6, 42, 43, 44]))))
def c_LawBack : AFn := ⟨(.seq (.reg [⟨(some 2), .mv (.c (.bool false)), none⟩] [0])
 (.seq (.reg [⟨(some 16), .mv (.t 0), none⟩,
   ⟨(some 17), .call (.f 9) [(.t 16)], none⟩,
   ⟨(some 15), .mv (.t 17), none⟩,
   ⟨(some 18), .ext (.t 15) 0, none⟩,
   ⟨(some 19), .ext (.t 15) 1, none⟩,
   ⟨(some 20), .ext (.t 15) 2, none⟩,
   ⟨(some 3), .mv (.t 18), none⟩,
   ⟨(some 4), .mv (.t 19), none⟩,
   ⟨(some 5), .mv (.t 20), none⟩] [0, 3, 5])
 (.seq (.seq (.reg [⟨(some 21), .mv (.t 5), none⟩,
    ⟨(some 22), .bin .neq (.t 21) (.c (.int .i64 0)), none⟩] [0, 3, 5, 22])
  (.cond (.t 22) true
   (.seq (.reg [⟨(some 23), .mv (.t 3), none⟩,
     ⟨(some 24), .lenL (.t 23), none⟩,
     ⟨(some 25), .bin .eql (.t 24) (.c (.int .i64 0)), none⟩,
     ⟨(some 26), .mv (.t 25), none⟩,
     ⟨(some 27), .mv (.t 5), (some (26, true))⟩,
     ⟨(some 28), .bin .eql (.t 27) (.c (.int .i64 4)), (some (26, true))⟩,
     ⟨(some 29), .mv (.t 28), (some (26, true))⟩,
     ⟨(some 30), .mv (.t 5), (some (29, false))⟩,
     ⟨(some 31), .bin .eql (.t 30) (.c (.int .i64 5)), (some (29, false))⟩,
     ⟨(some 32), .mv (.t 31), (some (29, false))⟩,
     ⟨(some 33), .mv (.t 0), (some (32, true))⟩,
     ⟨(some 34), .lenS (.t 33), (some (32, true))⟩,
     ⟨(some 35), .bin .gtr (.t 34) (.c (.int .i64 12000)), (some (32, true))⟩,
     ⟨(some 36), .pick (.t 32) (.t 35) (.c (.bool false)), (some (29, false))⟩,
     ⟨(some 37), .pick (.t 29) (.c (.bool true)) (.t 36), (some (26, true))⟩,
     ⟨(some 38), .pick (.t 26) (.t 37) (.c (.bool false)), none⟩,
     ⟨(some 39), .mv (.t 38), none⟩,
     ⟨(some 40), .call (.f 12) [], (some (39, true))⟩,
     ⟨(some 41), .pick (.t 39) (.t 40) (.c (.bool false)), none⟩,
     ⟨(some 2), .mv (.t 41), none⟩] [2])
   .ret)
   .skip))
 (.seq (.reg [⟨(some 6), .mv (.c (.int .i64 0)), none⟩] [0, 3, 6])
 (.seq (.seq (.reg [⟨(some 42), .mv (.t 3), none⟩,
    ⟨(some 43), .lenL (.t 42), none⟩,
    ⟨(some 44), .mv (.c (.int .i64 0)), none⟩] [0, 3, 6, 42, 43, 44])
  (.block 0 (.loop l_LawBack_0)))
 (.seq (.reg [⟨(some 98), .mv (.t 3), none⟩,
   ⟨(some 99), .call (.f 24) [(.t 98)], none⟩,
   ⟨(some 97), .mv (.t 99), none⟩,
   ⟨(some 100), .ext (.t 97) 0, none⟩,
   ⟨(some 101), .ext (.t 97) 1, none⟩,
   ⟨(some 10), .mv (.t 100), none⟩,
   ⟨(some 11), .mv (.t 101), none⟩] [0, 3, 10, 11])
 (.seq (.seq (.reg [⟨(some 102), .mv (.t 11), none⟩,
    ⟨(some 103), .bin .neq (.t 102) (.c (.int .i64 0)), none⟩,
    ⟨(some 104), .mv (.t 103), none⟩,
    ⟨(some 105), .mv (.t 3), (some (104, false))⟩,
    ⟨(some 106), .lenL (.t 105), (some (104, false))⟩,
    ⟨(some 107), .bin .eql (.t 106) (.c (.int .i64 0)), (some (104, false))⟩,
    ⟨(some 108), .pick (.t 104) (.c (.bool true)) (.t 107), none⟩,
    ⟨(some 109), .mv (.t 108), none⟩,
    ⟨(some 110), .mv (.t 3), (some (109, false))⟩,
    ⟨(some 111), .mv (.t 3), (some (109, false))⟩,
    ⟨(some 112), .lenL (.t 111), (some (109, false))⟩,
    ⟨(some 113), .bin .sub (.t 112) (.c (.int .i64 1)), (some (109, false))⟩,
    ⟨(some 114), .iaddr 3 (.t 110) (.t 113), (some (109, false))⟩,
    ⟨(some 115), .faddr 2 (.t 114), (some (109, false))⟩,
    ⟨(some 116), .load none (.t 115), (some (109, false))⟩,
    ⟨(some 117), .mv (.t 0), (some (109, false))⟩,
    ⟨(some 118), .lenS (.t 117), (some (109, false))⟩,
    ⟨(some 119), .bin .neq (.t 116) (.t 118), (some (109, false))⟩,
    ⟨(some 120), .pick (.t 109) (.c (.bool true)) (.t 119), none⟩] [3, 10, 120])
  (.cond (.t 120) true
   (.seq (.reg [⟨(some 2), .mv (.c (.bool false)), none⟩] [2])
   .ret)
   .skip))
 (.seq (.reg [⟨(some 122), .mv (.t 10), none⟩,
   ⟨(some 123), .call (.f 9) [(.t 122)], none⟩,
   ⟨(some 121), .mv (.t 123), none⟩,
   ⟨(some 124), .ext (.t 121) 0, none⟩,
   ⟨(some 125), .ext (.t 121) 1, none⟩,
   ⟨(some 126), .ext (.t 121) 2, none⟩,
   ⟨(some 12), .mv (.t 124), none⟩,
   ⟨(some 13), .mv (.t 125), none⟩,
   ⟨(some 14), .mv (.t 126), none⟩] [3, 10, 12, 14])
 (.seq (.seq (.reg [⟨(some 127), .mv (.t 10), none⟩,
    ⟨(some 128), .lenS (.t 127), none⟩,
    ⟨(some 129), .bin .gtr (.t 128) (.c (.int .i64 12000)), none⟩] [3, 12, 14, 129])
  (.cond (.t 129) true
   (.seq (.reg [⟨(some 130), .mv (.t 14), none⟩,
     ⟨(some 131), .bin .eql (.t 130) (.c (.int .i64 5)), none⟩,
     ⟨(some 132), .mv (.t 131), none⟩,
     ⟨(some 133), .call (.f 12) [], (some (132, true))⟩,
     ⟨(some 134), .pick (.t 132) (.t 133) (.c (.bool false)), none⟩,
     ⟨(some 2), .mv (.t 134), none⟩] [2])
   .ret)
   .skip))
 (.seq (.reg [⟨(some 135), .mv (.t 14), none⟩,
   ⟨(some 136), .bin .eql (.t 135) (.c (.int .i64 0)), none⟩,
   ⟨(some 137), .mv (.t 136), none⟩,
   ⟨(some 138), .mv (.t 3), (some (137, true))⟩,
   ⟨(some 139), .mv (.t 12), (some (137, true))⟩,
   ⟨(some 140), .call (.f 11) [(.t 138), (.t 139), (.c (.bool false))], (some (137, true))⟩,
   ⟨(some 141), .pick (.t 137) (.t 140) (.c (.bool false)), none⟩,
   ⟨(some 142), .mv (.t 141), none⟩,
   ⟨(some 143), .call (.f 12) [], (some (142, true))⟩,
   ⟨(some 144), .pick (.t 142) (.t 143) (.c (.bool false)), none⟩,
   ⟨(some 2), .mv (.t 144), none⟩] [2])
 .ret)))))))))), [.tmp 2], 145⟩
theorem h_LawBack : compFn Tryd.prog k_LawBack 8 = some c_LawBack := by kernel_rfl
/-- slices.Clone[[]string,string] -/
abbrev f_clone : FuncId := 42
def k_clone : Tab := [(0, [], [0]), (1, [], [0, 4]), (2, [], [2]), (3, [], [2]), (999999, [4], [])]
def c_clone : AFn := ⟨(.seq (.reg [⟨(some 2), .mv (.c (.sl [] .full)), none⟩] [0])
 (.seq (.seq (.reg [⟨(some 3), .mv (.t 0), none⟩,
    ⟨(some 4), .isnil false .sl (.t 3), none⟩] [0, 4])
  (.cond (.t 4) true
   (.seq (.reg [⟨(some 2), .mv (.c (.sl [] .full)), none⟩] [2])
   .ret)
   .skip))
 (.seq (.reg [⟨(some 5), .bsl 1 [], none⟩,
   ⟨(some 6), .mv (.t 0), none⟩,
   ⟨(some 7), .app 1 16 9 (.t 5) (.t 6), none⟩,
   ⟨(some 2), .mv (.t 7), none⟩] [2])
 .ret))), [.tmp 2], 8⟩
theorem h_clone : compFn Tryd.prog k_clone 42 = some c_clone := by kernel_rfl
/-- slices.Contains[[]string,string] -/
abbrev f_contains : FuncId := 72
def k_contains : Tab := [(0, [], [0, 1]), (1, [], [4])]
def c_contains : AFn := ⟨(.seq (.reg [⟨(some 4), .mv (.c (.bool false)), none⟩] [0, 1])
 (.seq (.reg [⟨(some 5), .mv (.t 0), none⟩,
   ⟨(some 6), .mv (.t 1), none⟩,
   ⟨(some 7), .call (.f 82) [(.t 5), (.t 6)], none⟩,
   ⟨(some 8), .bin .geq (.t 7) (.c (.int .i64 0)), none⟩,
   ⟨(some 4), .mv (.t 8), none⟩] [4])
 .ret)), [.tmp 4], 9⟩
theorem h_contains : compFn Tryd.prog k_contains 72 = some c_contains := by kernel_rfl
/-- slices.Index[[]string,string] -/
abbrev f_index : FuncId := 82
def k_index : Tab := [(0, [], [0, 1]), (1, [], [0, 1, 7, 8]), (2, [], [0, 1, 7, 8, 9]), (3, [], [0, 1, 5, 7, 8]), (4, [], [0, 1, 5, 7, 8, 16]), (5, [], [4]), (6, [], [0, 1, 7, 8]), (7, [], [4]), (999999, [9, 16], [])]
def l_index_0 : ACode := (.seq (.reg [⟨(some 9), .bin .lss (.t 8) (.t 7), none⟩] [0, 1, 7, 8, 9])
 (.seq (.cond (.t 9) true
   .skip
   (.exit 0))
 (.seq (.block 1 (.seq (.reg [⟨(some 10), .mv (.t 8), none⟩,
     ⟨(some 5), .mv (.t 10), none⟩] [0, 1, 5, 7, 8])
   (.seq (.reg [⟨(some 11), .mv (.t 1), none⟩,
     ⟨(some 12), .mv (.t 0), none⟩,
     ⟨(some 13), .mv (.t 5), none⟩,
     ⟨(some 14), .iaddr 1 (.t 12) (.t 13), none⟩,
     ⟨(some 15), .load none (.t 14), none⟩,
     ⟨(some 16), .bin .eql (.t 11) (.t 15), none⟩] [0, 1, 5, 7, 8, 16])
   (.cond (.t 16) true
    (.seq (.reg [⟨(some 17), .mv (.t 5), none⟩,
      ⟨(some 4), .mv (.t 17), none⟩] [4])
    .ret)
    .skip))))
 (.reg [⟨(some 18), .bin .add (.t 8) (.c (.int .i64 1)), none⟩,
  ⟨(some 8), .mv (.t 18), none⟩] [0, 1, 7, 8]))))
def c_index : AFn := ⟨(.seq (.reg [⟨(some 4), .mv (.c (.int .i64 0)), none⟩] [0, 1])
 (.seq (.seq (.reg [⟨(some 6), .mv (.t 0), none⟩,
    ⟨(some 7), .lenL (.t 6), none⟩,
    ⟨(some 8), .mv (.c (.int .i64 0)), none⟩] [0, 1, 7, 8])
  (.block 0 (.loop l_index_0)))
 (.seq (.reg [⟨(some 4), .mv (.c (.int .i64 (-1))), none⟩] [4])
 .ret))), [.tmp 4], 19⟩
theorem h_index : compFn Tryd.prog k_index 82 = some c_index := by kernel_rfl
/-- strings.IndexByte -/
abbrev f_IndexByte : FuncId := 51
def k_IndexByte : Tab := [(0, [], [0, 1]), (1, [], [4])]
def c_IndexByte : AFn := ⟨(.seq (.reg [⟨(some 4), .mv (.c (.int .i64 0)), none⟩] [0, 1])
 (.seq (.reg [⟨(some 5), .mv (.t 0), none⟩,
   ⟨(some 6), .mv (.t 1), none⟩,
   ⟨(some 7), .call (.f 71) [(.t 5), (.t 6)], none⟩,
   ⟨(some 4), .mv (.t 7), none⟩] [4])
 .ret)), [.tmp 4], 8⟩
theorem h_IndexByte : compFn Tryd.prog k_IndexByte 51 = some c_IndexByte := by kernel_rfl
/-- internal/stringslite.IndexByte -/
abbrev f_slIndexByte : FuncId := 71
def k_slIndexByte : Tab := [(0, [], [0, 1]), (1, [], [4])]
def c_slIndexByte : AFn := ⟨(.seq (.reg [⟨(some 4), .mv (.c (.int .i64 0)), none⟩] [0, 1])
 (.seq (.reg [⟨(some 5), .mv (.t 0), none⟩,
   ⟨(some 6), .mv (.t 1), none⟩,
   ⟨(some 7), .call (.f 81) [(.t 5), (.t 6)], none⟩,
   ⟨(some 4), .mv (.t 7), none⟩] [4])
 .ret)), [.tmp 4], 8⟩
theorem h_slIndexByte : compFn Tryd.prog k_slIndexByte 71 = some c_slIndexByte := by kernel_rfl
/-- strings.HasPrefix -/
abbrev f_HasPrefix : FuncId := 39
def k_HasPrefix : Tab := [(0, [], [0, 1]), (1, [], [4])]
def c_HasPrefix : AFn := ⟨(.seq (.reg [⟨(some 4), .mv (.c (.bool false)), none⟩] [0, 1])
 (.seq (.reg [⟨(some 5), .mv (.t 0), none⟩,
   ⟨(some 6), .mv (.t 1), none⟩,
   ⟨(some 7), .call (.f 62) [(.t 5), (.t 6)], none⟩,
   ⟨(some 4), .mv (.t 7), none⟩] [4])
 .ret)), [.tmp 4], 8⟩
theorem h_HasPrefix : compFn Tryd.prog k_HasPrefix 39 = some c_HasPrefix := by kernel_rfl
/-- internal/stringslite.HasPrefix -/
abbrev f_slHasPrefix : FuncId := 62
def k_slHasPrefix : Tab := [(0, [], [0, 1]), (1, [], [4])]
def c_slHasPrefix : AFn := ⟨(.seq (.reg [⟨(some 4), .mv (.c (.bool false)), none⟩] [0, 1])
 (.seq (.reg [⟨(some 5), .mv (.t 0), none⟩,
   ⟨(some 6), .lenS (.t 5), none⟩,
   ⟨(some 7), .mv (.t 1), none⟩,
   ⟨(some 8), .lenS (.t 7), none⟩,
   ⟨(some 9), .bin .geq (.t 6) (.t 8), none⟩,
   ⟨(some 10), .mv (.t 9), none⟩,
   ⟨(some 11), .mv (.t 0), (some (10, true))⟩,
   ⟨(some 12), .mv (.t 1), (some (10, true))⟩,
   ⟨(some 13), .lenS (.t 12), (some (10, true))⟩,
   ⟨(some 14), .slS (.t 11) none (some (.t 13)), (some (10, true))⟩,
   ⟨(some 15), .mv (.t 1), (some (10, true))⟩,
   ⟨(some 16), .bin .eql (.t 14) (.t 15), (some (10, true))⟩,
   ⟨(some 17), .pick (.t 10) (.t 16) (.c (.bool false)), none⟩,
   ⟨(some 4), .mv (.t 17), none⟩] [4])
 .ret)), [.tmp 4], 18⟩
theorem h_slHasPrefix : compFn Tryd.prog k_slHasPrefix 62 = some c_slHasPrefix := by kernel_rfl
/-- internal/bytealg.IndexByteString -/
abbrev f_IndexByteString : FuncId := 81
/-- internal/bytealg.CountString -/
abbrev f_CountString : FuncId := 65
/-- internal/bytealg.LastIndexByteString -/
abbrev f_LastIndexByteString : FuncId := 67
def k_LastIndexByteString : Tab := [(0, [], [0, 1]), (1, [], [0, 1, 5]), (2, [], [0, 1, 5, 10]), (4, [], [0, 1, 5, 17]), (5, [], [4]), (3, [], [0, 1, 5]), (6, [], [4]), (999999, [10, 17], [])]
def l_LastIndexByteString_0 : ACode := (.seq (.seq (.reg [⟨(some 9), .mv (.t 5), none⟩,
    ⟨(some 10), .bin .geq (.t 9) (.c (.int .i64 0)), none⟩] [0, 1, 5, 10])
  (.cond (.t 10) true
   .skip
   (.exit 0)))
 (.seq (.block 1 (.seq (.reg [⟨(some 13), .mv (.t 0), none⟩,
     ⟨(some 14), .mv (.t 5), none⟩,
     ⟨(some 15), .ixS (.t 13) (.t 14), none⟩,
     ⟨(some 16), .mv (.t 1), none⟩,
     ⟨(some 17), .bin .eql (.t 15) (.t 16), none⟩] [0, 1, 5, 17])
   (.cond (.t 17) true
    (.seq (.reg [⟨(some 18), .mv (.t 5), none⟩,
      ⟨(some 4), .mv (.t 18), none⟩] [4])
    .ret)
    .skip)))
 (.reg [⟨(some 11), .mv (.t 5), none⟩,
  ⟨(some 12), .bin .sub (.t 11) (.c (.int .i64 1)), none⟩,
  ⟨(some 5), .mv (.t 12), none⟩] [0, 1, 5])))
def c_LastIndexByteString : AFn := ⟨(.seq (.reg [⟨(some 4), .mv (.c (.int .i64 0)), none⟩] [0, 1])
 (.seq (.seq (.reg [⟨(some 6), .mv (.t 0), none⟩,
    ⟨(some 7), .lenS (.t 6), none⟩,
    ⟨(some 8), .bin .sub (.t 7) (.c (.int .i64 1)), none⟩,
    ⟨(some 5), .mv (.t 8), none⟩] [0, 1, 5])
  (.block 0 (.loop l_LastIndexByteString_0)))
 (.seq (.reg [⟨(some 4), .mv (.c (.int .i64 (-1))), none⟩] [4])
 .ret))), [.tmp 4], 19⟩
theorem h_LastIndexByteString : compFn Tryd.prog k_LastIndexByteString 67 = some c_LastIndexByteString := by kernel_rfl
/-- strings.LastIndexByte -/
abbrev f_LastIndexByte : FuncId := 45
def k_LastIndexByte : Tab := [(0, [], [0, 1]), (1, [], [4])]
def c_LastIndexByte : AFn := ⟨(.seq (.reg [⟨(some 4), .mv (.c (.int .i64 0)), none⟩] [0, 1])
 (.seq (.reg [⟨(some 5), .mv (.t 0), none⟩,
   ⟨(some 6), .mv (.t 1), none⟩,
   ⟨(some 7), .call (.f 67) [(.t 5), (.t 6)], none⟩,
   ⟨(some 4), .mv (.t 7), none⟩] [4])
 .ret)), [.tmp 4], 8⟩
theorem h_LastIndexByte : compFn Tryd.prog k_LastIndexByte 45 = some c_LastIndexByte := by kernel_rfl
/-- strings.Count -/
abbrev f_Count : FuncId := 44
def k_Count : Tab := [(0, [], [0, 1]), (1, [], [0, 1, 9]), (2, [], [4]), (3, [], [0, 1, 15]), (4, [], [4]), (5, [], [0, 1, 5]), (6, [], [0, 1, 5, 6]), (7, [], [0, 1, 5, 6, 24]), (8, [], [4]), (9, [], [0, 1, 5, 6]), (10, [], [0, 1, 5]), (999999, [9, 15, 24], [])]
def l_Count_0 : ACode := (.block 1 (.seq (.reg [⟨(some 20), .mv (.t 0), none⟩,
    ⟨(some 21), .mv (.t 1), none⟩,
    ⟨(some 22), .call (.f 66) [(.t 20), (.t 21)], none⟩,
    ⟨(some 6), .mv (.t 22), none⟩] [0, 1, 5, 6])
  (.seq (.seq (.reg [⟨(some 23), .mv (.t 6), none⟩,
     ⟨(some 24), .bin .eql (.t 23) (.c (.int .i64 (-1))), none⟩] [0, 1, 5, 6, 24])
   (.cond (.t 24) true
    (.seq (.reg [⟨(some 25), .mv (.t 5), none⟩,
      ⟨(some 4), .mv (.t 25), none⟩] [4])
    .ret)
    .skip))
  (.seq (.reg [⟨(some 26), .mv (.t 5), none⟩,
    ⟨(some 27), .bin .add (.t 26) (.c (.int .i64 1)), none⟩,
    ⟨(some 5), .mv (.t 27), none⟩] [0, 1, 5, 6])
  (.reg [⟨(some 28), .mv (.t 0), none⟩,
   ⟨(some 29), .mv (.t 6), none⟩,
   ⟨(some 30), .mv (.t 1), none⟩,
   ⟨(some 31), .lenS (.t 30), none⟩,
   ⟨(some 32), .bin .add (.t 29) (.t 31), none⟩,
   ⟨(some 33), .slS (.t 28) (some (.t 32)) none, none⟩,
   ⟨(some 0), .mv (.t 33), none⟩] [0, 1, 5])))))
def c_Count : AFn := ⟨(.seq (.reg [⟨(some 4), .mv (.c (.int .i64 0)), none⟩] [0, 1])
 (.seq (.seq (.reg [⟨(some 7), .mv (.t 1), none⟩,
    ⟨(some 8), .lenS (.t 7), none⟩,
    ⟨(some 9), .bin .eql (.t 8) (.c (.int .i64 0)), none⟩] [0, 1, 9])
  (.cond (.t 9) true
   (.seq (.reg [⟨(some 10), .mv (.t 0), none⟩,
     ⟨(some 11), .call (.f 64) [(.t 10)], none⟩,
     ⟨(some 12), .bin .add (.t 11) (.c (.int .i64 1)), none⟩,
     ⟨(some 4), .mv (.t 12), none⟩] [4])
   .ret)
   .skip))
 (.seq (.seq (.reg [⟨(some 13), .mv (.t 1), none⟩,
    ⟨(some 14), .lenS (.t 13), none⟩,
    ⟨(some 15), .bin .eql (.t 14) (.c (.int .i64 1)), none⟩] [0, 1, 15])
  (.cond (.t 15) true
   (.seq (.reg [⟨(some 16), .mv (.t 0), none⟩,
     ⟨(some 17), .mv (.t 1), none⟩,
     ⟨(some 18), .ixS (.t 17) (.c (.int .i64 0)), none⟩,
     ⟨(some 19), .call (.f 65) [(.t 16), (.t 18)], none⟩,
     ⟨(some 4), .mv (.t 19), none⟩] [4])
   .ret)
   .skip))
 (.seq (.reg [⟨(some 5), .mv (.c (.int .i64 0)), none⟩] [0, 1, 5])
 (.block 0 (.loop l_Count_0)))))), [.tmp 4], 34⟩
theorem h_Count : compFn Tryd.prog k_Count 44 = some c_Count := by kernel_rfl
/-- strings.Contains -/
abbrev f_sContains : FuncId := 79
def k_sContains : Tab := [(0, [], [0, 1]), (1, [], [4])]
def c_sContains : AFn := ⟨(.seq (.reg [⟨(some 4), .mv (.c (.bool false)), none⟩] [0, 1])
 (.seq (.reg [⟨(some 5), .mv (.t 0), none⟩,
   ⟨(some 6), .mv (.t 1), none⟩,
   ⟨(some 7), .call (.f 66) [(.t 5), (.t 6)], none⟩,
   ⟨(some 8), .bin .geq (.t 7) (.c (.int .i64 0)), none⟩,
   ⟨(some 4), .mv (.t 8), none⟩] [4])
 .ret)), [.tmp 4], 9⟩
theorem h_sContains : compFn Tryd.prog k_sContains 79 = some c_sContains := by kernel_rfl
/-- strings.Index -/
abbrev f_sIndex : FuncId := 66
def k_sIndex : Tab := [(0, [], [0, 1]), (1, [], [4])]
def c_sIndex : AFn := ⟨(.seq (.reg [⟨(some 4), .mv (.c (.int .i64 0)), none⟩] [0, 1])
 (.seq (.reg [⟨(some 5), .mv (.t 0), none⟩,
   ⟨(some 6), .mv (.t 1), none⟩,
   ⟨(some 7), .call (.f 78) [(.t 5), (.t 6)], none⟩,
   ⟨(some 4), .mv (.t 7), none⟩] [4])
 .ret)), [.tmp 4], 8⟩
theorem h_sIndex : compFn Tryd.prog k_sIndex 66 = some c_sIndex := by kernel_rfl
/-- strings.Fields -/
abbrev f_Fields : FuncId := 63
def k_Fields : Tab := [(0, [], [0, 24, 26, 33, 41, 50, 64, 88]), (1, [], [0, 3, 24, 26, 33, 41, 50, 64, 88]), (2, [], [0, 3, 4, 24, 26, 33, 41, 50, 64, 88]), (3, [], [0, 3, 4, 5, 24, 26, 33, 41, 50, 64, 88]), (4, [], [0, 3, 4, 5, 6, 24, 26, 33, 41, 50, 64, 88]), (5, [], [0, 3, 4, 5, 6, 16, 24, 26, 33, 41, 50, 64, 88]), (7, [], [0, 3, 4, 5, 6, 7, 24, 26, 33, 41, 50, 64, 88]), (8, [], [0, 3, 4, 5, 6, 7, 24, 26, 33, 41, 50, 64, 88]), (9, [], [0, 3, 4, 5, 6, 8, 24, 26, 33, 41, 50, 64, 88]), (10, [], [0, 3, 5, 6, 8, 24, 26, 33, 41, 50, 64, 88]), (11, [], [0, 3, 4, 5, 6, 24, 26, 33, 41, 50, 64, 88]), (6, [], [0, 3, 4, 5, 6, 24, 26, 33, 41, 50, 64, 88]), (12, [], [0, 3, 37, 41, 50, 64, 88]), (13, [], [2]), (14, [], [0, 9, 50, 64, 88]), (15, [], [0, 9, 10, 50, 64, 88]), (16, [], [0, 9, 10, 50, 64, 88]), (17, [], [0, 9, 10, 12, 50, 64, 88]), (18, [], [0, 9, 10, 12, 50, 53, 64, 88]), (19, [], [0, 9, 10, 12, 50, 64, 88]), (20, [], [0, 9, 10, 11, 12, 64, 88]), (21, [], [0, 9, 10, 11, 12, 60, 64, 88]), (22, [], [0, 9, 10, 11, 12, 64, 66, 88]), (23, [], [0, 9, 10, 11, 12, 64, 88]), (24, [], [0, 9, 10, 12, 64, 88]), (25, [], [0, 9, 10, 12, 64, 88]), (26, [], [0, 9, 10, 12, 64, 88]), (27, [], [0, 9, 10, 12, 64, 88, 91]), (28, [], [0, 9, 10, 12, 64, 88]), (29, [], [0, 9, 10, 11, 12, 64, 88]), (30, [], [0, 9, 10, 11, 98]), (31, [], [9]), (32, [], [2]), (999999, [16, 37, 53, 60, 66, 91, 98], [])]
-- NOT COMPILED
/-- strconv.Atoi -/
abbrev f_Atoi : FuncId := 73
def k_Atoi : Tab := [(0, [], [0]), (1, [], [0, 4, 5]), (2, [], [0, 4, 5, 12]), (3, [], [2, 3]), (4, [], [2, 3]), (999999, [12], [])]
def c_Atoi : AFn := ⟨(.seq (.reg [⟨(some 2), .mv (.c (.int .i64 0)), none⟩,
   ⟨(some 3), .mv (.c .nilif), none⟩] [0])
 (.seq (.reg [⟨(some 7), .mv (.t 0), none⟩,
   ⟨(some 8), .call (.f 83) [(.t 7)], none⟩,
   ⟨(some 6), .mv (.t 8), none⟩,
   ⟨(some 9), .ext (.t 6) 0, none⟩,
   ⟨(some 10), .ext (.t 6) 1, none⟩,
   ⟨(some 4), .mv (.t 9), none⟩,
   ⟨(some 5), .mv (.t 10), none⟩] [0, 4, 5])
 (.seq (.seq (.reg [⟨(some 11), .mv (.t 5), none⟩,
    ⟨(some 12), .isnil true .iface (.t 11), none⟩] [0, 4, 5, 12])
  (.cond (.t 12) true
   (.seq (.reg [⟨(some 13), .mv (.t 4), none⟩,
     ⟨(some 14), .mv (.t 0), none⟩,
     ⟨(some 15), .mv (.t 5), none⟩,
     ⟨(some 16), .call (.f 84) [(.c (.str [65, 116, 111, 105])), (.t 14), (.c (.int .i64 0)), (.c (.int .i64 0)), (.t 15)], none⟩,
     ⟨(some 2), .mv (.t 13), none⟩,
     ⟨(some 3), .mv (.t 16), none⟩] [2, 3])
   .ret)
   .skip))
 (.seq (.reg [⟨(some 17), .mv (.t 4), none⟩,
   ⟨(some 2), .mv (.t 17), none⟩,
   ⟨(some 3), .mv (.c .nilif), none⟩] [2, 3])
 .ret)))), [.tmp 2, .tmp 3], 18⟩
theorem h_Atoi : compFn Tryd.prog k_Atoi 73 = some c_Atoi := by kernel_rfl
/-- strconv.Itoa -/
abbrev f_Itoa : FuncId := 74
def k_Itoa : Tab := [(0, [], [0]), (1, [], [2])]
def c_Itoa : AFn := ⟨(.seq (.reg [⟨(some 2), .mv (.c (.str [])), none⟩] [0])
 (.seq (.reg [⟨(some 3), .mv (.t 0), none⟩,
   ⟨(some 4), .call (.f 85) [(.t 3)], none⟩,
   ⟨(some 2), .mv (.t 4), none⟩] [2])
 .ret)), [.tmp 2], 5⟩
theorem h_Itoa : compFn Tryd.prog k_Itoa 74 = some c_Itoa := by kernel_rfl
/-- (*strings.Builder).WriteByte -/
abbrev f_bWriteByte : FuncId := 47
def k_bWriteByte : Tab := [(0, [], [0, 1]), (1, [], [0, 1]), (2, [], []), (3, [], [4])]
def c_bWriteByte : AFn := ⟨(.seq (.reg [⟨(some 4), .mv (.c .nilif), none⟩] [0, 1])
 (.seq (.reg [⟨(some 5), .mv (.t 0), none⟩,
   ⟨(some 6), .call (.f 69) [(.t 5)], none⟩] [0, 1])
 (.seq (.reg [⟨(some 7), .mv (.t 0), none⟩,
   ⟨(some 8), .mv (.t 0), none⟩,
   ⟨(some 9), .nilck (.t 8), none⟩,
   ⟨(some 10), .faddr 1 (.t 9), none⟩,
   ⟨(some 11), .load none (.t 10), none⟩,
   ⟨(some 12), .mv (.t 1), none⟩,
   ⟨(some 13), .bsl 1 [(.t 12)], none⟩,
   ⟨(some 14), .app 1 1 5 (.t 11) (.t 13), none⟩,
   ⟨(some 15), .nilck (.t 7), none⟩,
   ⟨(some 16), .faddr 1 (.t 15), none⟩,
   ⟨none, .store 1 (.t 16) (.t 14), none⟩] [])
 (.seq (.reg [⟨(some 4), .mv (.c .nilif), none⟩] [4])
 .ret)))), [.tmp 4], 17⟩
theorem h_bWriteByte : compFn Tryd.prog k_bWriteByte 47 = some c_bWriteByte := by kernel_rfl
/-- (*strings.Builder).WriteString -/
abbrev f_bWriteString : FuncId := 48
def k_bWriteString : Tab := [(0, [], [0, 1]), (1, [], [0, 1]), (2, [], [1]), (3, [], [4, 5])]
def c_bWriteString : AFn := ⟨(.seq (.reg [⟨(some 4), .mv (.c (.int .i64 0)), none⟩,
   ⟨(some 5), .mv (.c .nilif), none⟩] [0, 1])
 (.seq (.reg [⟨(some 6), .mv (.t 0), none⟩,
   ⟨(some 7), .call (.f 69) [(.t 6)], none⟩] [0, 1])
 (.seq (.reg [⟨(some 8), .mv (.t 0), none⟩,
   ⟨(some 9), .mv (.t 0), none⟩,
   ⟨(some 10), .nilck (.t 9), none⟩,
   ⟨(some 11), .faddr 1 (.t 10), none⟩,
   ⟨(some 12), .load none (.t 11), none⟩,
   ⟨(some 13), .mv (.t 1), none⟩,
   ⟨(some 14), .apps 1 5 (.t 12) (.t 13), none⟩,
   ⟨(some 15), .nilck (.t 8), none⟩,
   ⟨(some 16), .faddr 1 (.t 15), none⟩,
   ⟨none, .store 1 (.t 16) (.t 14), none⟩] [1])
 (.seq (.reg [⟨(some 17), .mv (.t 1), none⟩,
   ⟨(some 18), .lenS (.t 17), none⟩,
   ⟨(some 4), .mv (.t 18), none⟩,
   ⟨(some 5), .mv (.c .nilif), none⟩] [4, 5])
 .ret)))), [.tmp 4, .tmp 5], 19⟩
theorem h_bWriteString : compFn Tryd.prog k_bWriteString 48 = some c_bWriteString := by kernel_rfl

end Go.Proofs.YtkcljempplchkaaDoor

/- The small functions of lexis and of the reference. -/
set_option maxRecDepth 100000
set_option linter.unusedVariables false
set_option linter.unusedSimpArgs false
namespace Go.Proofs.YtkcljempplchkaaDoor
open Go.Eng

theorem hm : Tryd.prog.follows .mixedOrders = true := Tryd.checked.mixed

section
variable {O : Cfg}

/-- A function that answers a value and changes nothing. -/
def PureCall (O : Cfg) (f : FuncId) (args : List AVal) (v : AVal) : Prop := ∀ H, ACalls O Tryd.prog f args H (fun r H' => r = .ret v ∧ H' = H)
theorem PureCall.step {f : FuncId} {args : List AVal} {v : AVal} (h : PureCall O f args v) {H : Hp} {ds : List ADef} {R E : Res} (k : R v H ds) : ACalls O Tryd.prog f args H (callPost ds R E) :=
  (h H).mono (by rintro r H' ⟨rfl, rfl⟩; exact k)

theorem entry {ks : Tab} {f : FuncId} {F : AFn} {args : List AVal} {H : Hp} {Q : ARet → Hp → Prop} (hc : compFn Tryd.prog ks f = some F) (hn : Nat.ble args.length F.n = true)
    (h : wpC O Tryd.prog ks F.code (bodyA F.res Q) ⟨mk F.n (argM 0 args), H, []⟩) : ACalls O Tryd.prog f args H Q :=
  acalls_fn hc (AC.go hm (by rw [mk_args _ _ hn]; exact h))
theorem wpC_id {ks : Tab} {ac : ACode} {Q : Post} {s : S} (h : wpC O Tryd.prog ks ac Q s) : wpC O Tryd.prog ks ac Q s := h
theorem quiet_id {v : Option AVal} {R : Res} {H : Hp} {ds : List ADef} (h : quiet v R H ds) : quiet v R H ds := h
theorem wrote_id {v : Option Hp} {R : Res} {ds : List ADef} (h : wrote v R ds) : wrote v R ds := h
theorem resQ_id {vs : Option (List AVal)} {Q : ARet → Hp → Prop} {H : Hp} (h : resQ vs Q H) : resQ vs Q H := h
def noLoop : ACode → Bool
  | .loop _ => false
  | _ => true
theorem go {ks : Tab} {ac : ACode} {Q : Post} {s : S} (h : wpC O Tryd.prog ks ac Q s) (_ : noLoop ac = true := by rfl) : AC O Tryd.prog ks ac Q s := AC.go hm h

def small (c : UInt8) : Bool := iLe 97 (uC c) && iLe (uC c) 122
def capital (c : UInt8) : Bool := iLe 65 (uC c) && iLe (uC c) 90
def digit (c : UInt8) : Bool := iLe 48 (uC c) && iLe (uC c) 57

theorem isSmall_pure (c : UInt8) : PureCall O f_isSmall [.int .u8 (uC c)] (.bool (small c)) := fun H => by
  refine entry h_isSmall rfl ?_; simp -implicitDefEqProofs only [go_sem, Nat.reduceAdd, Nat.reduceLeDiff, Nat.reduceEqDiff, Nat.reduceBEq, Nat.reduceLT, c_isSmall]
  refine go ?_
  simp -implicitDefEqProofs only [go_sem, Nat.reduceAdd, Nat.reduceLeDiff, Nat.reduceEqDiff, Nat.reduceBEq, Nat.reduceLT]
  refine plan_split rfl rfl (fun h => ?_) (fun h => ?_) <;> simp -implicitDefEqProofs only [go_sem, Nat.reduceAdd, Nat.reduceLeDiff, Nat.reduceEqDiff, Nat.reduceBEq, Nat.reduceLT, h] <;> refine go ?_ <;> simp -implicitDefEqProofs only [go_sem, Nat.reduceAdd, Nat.reduceLeDiff, Nat.reduceEqDiff, Nat.reduceBEq, Nat.reduceLT] <;> simp [small, h]

theorem isCapital_pure (c : UInt8) : PureCall O f_isCapital [.int .u8 (uC c)] (.bool (capital c)) := fun H => by
  refine entry h_isCapital rfl ?_; simp -implicitDefEqProofs only [go_sem, Nat.reduceAdd, Nat.reduceLeDiff, Nat.reduceEqDiff, Nat.reduceBEq, Nat.reduceLT, c_isCapital]
  refine go ?_
  simp -implicitDefEqProofs only [go_sem, Nat.reduceAdd, Nat.reduceLeDiff, Nat.reduceEqDiff, Nat.reduceBEq, Nat.reduceLT]
  refine plan_split rfl rfl (fun h => ?_) (fun h => ?_) <;> simp -implicitDefEqProofs only [go_sem, Nat.reduceAdd, Nat.reduceLeDiff, Nat.reduceEqDiff, Nat.reduceBEq, Nat.reduceLT, h] <;> refine go ?_ <;> simp -implicitDefEqProofs only [go_sem, Nat.reduceAdd, Nat.reduceLeDiff, Nat.reduceEqDiff, Nat.reduceBEq, Nat.reduceLT] <;> simp [capital, h]

theorem isDigit_pure (c : UInt8) : PureCall O f_isDigit [.int .u8 (uC c)] (.bool (digit c)) := fun H => by
  refine entry h_isDigit rfl ?_; simp -implicitDefEqProofs only [go_sem, Nat.reduceAdd, Nat.reduceLeDiff, Nat.reduceEqDiff, Nat.reduceBEq, Nat.reduceLT, c_isDigit]
  refine go ?_
  simp -implicitDefEqProofs only [go_sem, Nat.reduceAdd, Nat.reduceLeDiff, Nat.reduceEqDiff, Nat.reduceBEq, Nat.reduceLT]
  refine plan_split rfl rfl (fun h => ?_) (fun h => ?_) <;> simp -implicitDefEqProofs only [go_sem, Nat.reduceAdd, Nat.reduceLeDiff, Nat.reduceEqDiff, Nat.reduceBEq, Nat.reduceLT, h] <;> refine go ?_ <;> simp -implicitDefEqProofs only [go_sem, Nat.reduceAdd, Nat.reduceLeDiff, Nat.reduceEqDiff, Nat.reduceBEq, Nat.reduceLT] <;> simp [digit, h]

theorem rsmall_pure (c : UInt8) : PureCall O f_rsmall [.int .u8 (uC c)] (.bool (small c)) := fun H => by
  refine entry h_rsmall rfl ?_; simp -implicitDefEqProofs only [go_sem, Nat.reduceAdd, Nat.reduceLeDiff, Nat.reduceEqDiff, Nat.reduceBEq, Nat.reduceLT, c_rsmall]
  refine go ?_
  simp -implicitDefEqProofs only [go_sem, Nat.reduceAdd, Nat.reduceLeDiff, Nat.reduceEqDiff, Nat.reduceBEq, Nat.reduceLT]
  refine plan_split rfl rfl (fun h => ?_) (fun h => ?_) <;> simp -implicitDefEqProofs only [go_sem, Nat.reduceAdd, Nat.reduceLeDiff, Nat.reduceEqDiff, Nat.reduceBEq, Nat.reduceLT, h] <;> refine go ?_ <;> simp -implicitDefEqProofs only [go_sem, Nat.reduceAdd, Nat.reduceLeDiff, Nat.reduceEqDiff, Nat.reduceBEq, Nat.reduceLT] <;> simp [small, h]

theorem rcapital_pure (c : UInt8) : PureCall O f_rcapital [.int .u8 (uC c)] (.bool (capital c)) := fun H => by
  refine entry h_rcapital rfl ?_; simp -implicitDefEqProofs only [go_sem, Nat.reduceAdd, Nat.reduceLeDiff, Nat.reduceEqDiff, Nat.reduceBEq, Nat.reduceLT, c_rcapital]
  refine go ?_
  simp -implicitDefEqProofs only [go_sem, Nat.reduceAdd, Nat.reduceLeDiff, Nat.reduceEqDiff, Nat.reduceBEq, Nat.reduceLT]
  refine plan_split rfl rfl (fun h => ?_) (fun h => ?_) <;> simp -implicitDefEqProofs only [go_sem, Nat.reduceAdd, Nat.reduceLeDiff, Nat.reduceEqDiff, Nat.reduceBEq, Nat.reduceLT, h] <;> refine go ?_ <;> simp -implicitDefEqProofs only [go_sem, Nat.reduceAdd, Nat.reduceLeDiff, Nat.reduceEqDiff, Nat.reduceBEq, Nat.reduceLT] <;> simp [capital, h]

theorem rdigit_pure (c : UInt8) : PureCall O f_rdigit [.int .u8 (uC c)] (.bool (digit c)) := fun H => by
  refine entry h_rdigit rfl ?_; simp -implicitDefEqProofs only [go_sem, Nat.reduceAdd, Nat.reduceLeDiff, Nat.reduceEqDiff, Nat.reduceBEq, Nat.reduceLT, c_rdigit]
  refine go ?_
  simp -implicitDefEqProofs only [go_sem, Nat.reduceAdd, Nat.reduceLeDiff, Nat.reduceEqDiff, Nat.reduceBEq, Nat.reduceLT]
  refine plan_split rfl rfl (fun h => ?_) (fun h => ?_) <;> simp -implicitDefEqProofs only [go_sem, Nat.reduceAdd, Nat.reduceLeDiff, Nat.reduceEqDiff, Nat.reduceBEq, Nat.reduceLT, h] <;> refine go ?_ <;> simp -implicitDefEqProofs only [go_sem, Nat.reduceAdd, Nat.reduceLeDiff, Nat.reduceEqDiff, Nat.reduceBEq, Nat.reduceLT] <;> simp [digit, h]

/-- A byte of a name. -/
def inName (c : UInt8) : Bool := small c || capital c || digit c || iEq (uC c) 95 || iEq (uC c) 39

theorem isNameByte_pure (c : UInt8) : PureCall O f_isNameByte [.int .u8 (uC c)] (.bool (inName c)) := fun H => by
  refine entry h_isNameByte rfl ?_; simp -implicitDefEqProofs only [go_sem, Nat.reduceAdd, Nat.reduceLeDiff, Nat.reduceEqDiff, Nat.reduceBEq, Nat.reduceLT, c_isNameByte]
  repeat' (first
    | (refine PureCall.step (isSmall_pure _) ?_; simp -implicitDefEqProofs only [go_sem, Nat.reduceAdd, Nat.reduceLeDiff, Nat.reduceEqDiff, Nat.reduceBEq, Nat.reduceLT])
    | (refine PureCall.step (isCapital_pure _) ?_; simp -implicitDefEqProofs only [go_sem, Nat.reduceAdd, Nat.reduceLeDiff, Nat.reduceEqDiff, Nat.reduceBEq, Nat.reduceLT])
    | (refine PureCall.step (isDigit_pure _) ?_; simp -implicitDefEqProofs only [go_sem, Nat.reduceAdd, Nat.reduceLeDiff, Nat.reduceEqDiff, Nat.reduceBEq, Nat.reduceLT])
    | (refine wpC_split rfl rfl (fun h => ?_) (fun h => ?_) <;> simp -implicitDefEqProofs only [go_sem, Nat.reduceAdd, Nat.reduceLeDiff, Nat.reduceEqDiff, Nat.reduceBEq, Nat.reduceLT])
    | (refine go ?_; try simp -implicitDefEqProofs only [go_sem, Nat.reduceAdd, Nat.reduceLeDiff, Nat.reduceEqDiff, Nat.reduceBEq, Nat.reduceLT])
    | (refine plan_split rfl rfl (fun h => ?_) (fun h => ?_) <;> simp -implicitDefEqProofs only [go_sem, Nat.reduceAdd, Nat.reduceLeDiff, Nat.reduceEqDiff, Nat.reduceBEq, Nat.reduceLT, h]) | fail)
  all_goals simp_all [inName]

theorem rinName_pure (c : UInt8) : PureCall O f_rinName [.int .u8 (uC c)] (.bool (inName c)) := fun H => by
  refine entry h_rinName rfl ?_; simp -implicitDefEqProofs only [go_sem, Nat.reduceAdd, Nat.reduceLeDiff, Nat.reduceEqDiff, Nat.reduceBEq, Nat.reduceLT, c_rinName]
  repeat' (first
    | (refine PureCall.step (rsmall_pure _) ?_; simp -implicitDefEqProofs only [go_sem, Nat.reduceAdd, Nat.reduceLeDiff, Nat.reduceEqDiff, Nat.reduceBEq, Nat.reduceLT])
    | (refine PureCall.step (rcapital_pure _) ?_; simp -implicitDefEqProofs only [go_sem, Nat.reduceAdd, Nat.reduceLeDiff, Nat.reduceEqDiff, Nat.reduceBEq, Nat.reduceLT])
    | (refine PureCall.step (rdigit_pure _) ?_; simp -implicitDefEqProofs only [go_sem, Nat.reduceAdd, Nat.reduceLeDiff, Nat.reduceEqDiff, Nat.reduceBEq, Nat.reduceLT])
    | (refine wpC_split rfl rfl (fun h => ?_) (fun h => ?_) <;> simp -implicitDefEqProofs only [go_sem, Nat.reduceAdd, Nat.reduceLeDiff, Nat.reduceEqDiff, Nat.reduceBEq, Nat.reduceLT])
    | (refine go ?_; try simp -implicitDefEqProofs only [go_sem, Nat.reduceAdd, Nat.reduceLeDiff, Nat.reduceEqDiff, Nat.reduceBEq, Nat.reduceLT])
    | (refine plan_split rfl rfl (fun h => ?_) (fun h => ?_) <;> simp -implicitDefEqProofs only [go_sem, Nat.reduceAdd, Nat.reduceLeDiff, Nat.reduceEqDiff, Nat.reduceBEq, Nat.reduceLT, h]) | fail)
  all_goals simp_all [inName]

end
end Go.Proofs.YtkcljempplchkaaDoor

