/- The functions that the rules' statements reach, in the evaluator's form. -/
import Derived.Test.YtdmbkbmenahpnaaGreatDoorVz
set_option maxRecDepth 100000
namespace Ev.R5
open Go Ev
def i4 : IFn := ⟨67, [.tmp 2],
 (.seq (.ops [⟨(some 2), none, .mv (.c (.bool false))⟩])
 (.seq (.ops [⟨(some 10), none, .bslice 9 1 11 [(.str []), (.str []), (.str []), (.str []), (.str []), (.str []), (.str []), (.str []), (.str []), (.str []), (.str [])] [(0, 1, (.c (.str [108, 101, 116, 32, 118, 32, 58, 32, 105, 51, 50, 32, 61, 32, 49, 32, 59, 32, 120, 32, 61, 32, 118, 32, 59]))), (1, 1, (.c (.str [105, 102, 32, 120, 32, 60, 32, 49, 32, 123, 32, 108, 101, 116, 32, 118, 32, 58, 32, 105, 51, 50, 32, 61, 32, 49, 32, 59, 32, 120, 32, 61, 32, 118, 32, 59, 32, 125]))), (2, 1, (.c (.str [105, 102, 32, 120, 32, 60, 32, 49, 32, 123, 32, 108, 101, 116, 32, 118, 32, 58, 32, 105, 51, 50, 32, 61, 32, 49, 32, 59, 32, 125, 32, 120, 32, 61, 32, 118, 32, 59]))), (3, 1, (.c (.str [120, 32, 61, 32, 118, 32, 59, 32, 108, 101, 116, 32, 118, 32, 58, 32, 105, 51, 50, 32, 61, 32, 49, 32, 59]))), (4, 1, (.c (.str [108, 101, 116, 32, 118, 32, 58, 32, 105, 51, 50, 32, 61, 32, 118, 32, 59]))), (5, 1, (.c (.str [105, 102, 32, 120, 32, 60, 32, 49, 32, 123, 32, 108, 101, 116, 32, 118, 32, 58, 32, 105, 51, 50, 32, 61, 32, 49, 32, 59, 32, 125, 32, 101, 108, 115, 101, 32, 123, 32, 108, 101, 116, 32, 118, 32, 58, 32, 105, 51, 50, 32, 61, 32, 50, 32, 59, 32, 125]))), (6, 1, (.c (.str [108, 101, 116, 32, 120, 32, 58, 32, 105, 51, 50, 32, 61, 32, 49, 32, 59]))), (7, 1, (.c (.str [108, 101, 116, 32, 118, 32, 58, 32, 105, 51, 50, 32, 91, 32, 52, 32, 93, 32, 59, 32, 120, 32, 61, 32, 118, 32, 59]))), (8, 1, (.c (.str [108, 101, 116, 32, 118, 32, 58, 32, 105, 51, 50, 32, 91, 32, 52, 32, 93, 32, 59, 32, 120, 32, 61, 32, 118, 32, 91, 32, 57, 32, 93, 32, 59]))), (9, 1, (.c (.str [108, 101, 116, 32, 118, 32, 58, 32, 105, 51, 50, 32, 61, 32, 49, 32, 59, 32, 118, 32, 91, 32, 48, 32, 93, 32, 61, 32, 49, 32, 59]))), (10, 1, (.c (.str [108, 101, 116, 32, 118, 32, 58, 32, 105, 51, 50, 32, 91, 32, 49, 55, 32, 93, 32, 59])))]⟩,
   ⟨(some 3), none, .mv (.t 10)⟩])
 (.seq (.ops [⟨(some 11), none, .bslice 3 1 11 [(.int .i64 0), (.int .i64 0), (.int .i64 0), (.int .i64 0), (.int .i64 0), (.int .i64 0), (.int .i64 0), (.int .i64 0), (.int .i64 0), (.int .i64 0), (.int .i64 0)] [(0, 1, (.c (.int .i64 0))), (1, 1, (.c (.int .i64 0))), (2, 1, (.c (.int .i64 2))), (3, 1, (.c (.int .i64 2))), (4, 1, (.c (.int .i64 2))), (5, 1, (.c (.int .i64 1))), (6, 1, (.c (.int .i64 1))), (7, 1, (.c (.int .i64 3))), (8, 1, (.c (.int .i64 0))), (9, 1, (.c (.int .i64 3))), (10, 1, (.c (.int .i64 4)))]⟩,
   ⟨(some 4), none, .mv (.t 11)⟩])
 (.seq (.ops [⟨(some 12), none, .mv (.t 0)⟩,
   ⟨(some 13), none, .conv .i64 (.t 12)⟩,
   ⟨(some 14), none, .mv (.t 3)⟩,
   ⟨(some 15), none, .len (.t 14)⟩,
   ⟨(some 16), none, .bin .rem (.t 13) (.t 15)⟩,
   ⟨(some 5), none, .mv (.t 16)⟩])
 (.seq (.ops [⟨(some 18), none, .mv (.t 3)⟩,
   ⟨(some 19), none, .mv (.t 5)⟩,
   ⟨(some 20), none, .idx 1 (.t 18) (.t 19)⟩,
   ⟨(some 21), none, .load1 (.t 20)⟩,
   ⟨(some 22), none, .bin .add (.c (.str [102, 110, 32, 102, 32, 40, 32, 120, 32, 58, 32, 105, 51, 50, 32, 41, 32, 123, 32])) (.t 21)⟩,
   ⟨(some 23), none, .bin .add (.t 22) (.c (.str [32, 125]))⟩,
   ⟨(some 24), none, .callf 10 [(.t 23)]⟩,
   ⟨(some 17), none, .mv (.t 24)⟩,
   ⟨(some 25), none, .ext 0 (.t 17)⟩,
   ⟨(some 26), none, .ext 1 (.t 17)⟩,
   ⟨(some 27), none, .ext 2 (.t 17)⟩,
   ⟨(some 6), none, .alloc 27 [.nils, .nils]⟩,
   ⟨none, none, .store 2 (.t 6) (.t 25)⟩,
   ⟨(some 7), none, .mv (.t 26)⟩,
   ⟨(some 8), none, .mv (.t 27)⟩])
 (.seq (.ops [⟨(some 28), none, .loadN 2 (.t 6)⟩,
   ⟨(some 29), none, .callf 16 [(.t 28)]⟩,
   ⟨(some 9), none, .mv (.t 29)⟩])
 (.seq (.seq (.ops [⟨(some 30), none, .mv (.t 7)⟩,
   ⟨(some 31), none, .bin .neq (.t 30) (.c (.int .i64 0))⟩,
   ⟨(some 32), none, .mv (.t 31)⟩,
   ⟨(some 33), some (32, false), .mv (.t 9)⟩,
   ⟨(some 34), some (32, false), .len (.t 33)⟩,
   ⟨(some 35), some (32, false), .bin .eql (.t 34) (.c (.int .i64 0))⟩,
   ⟨(some 36), some (32, false), .mv (.t 4)⟩,
   ⟨(some 37), some (32, false), .mv (.t 5)⟩,
   ⟨(some 38), some (32, false), .idx 1 (.t 36) (.t 37)⟩,
   ⟨(some 39), some (32, false), .load1 (.t 38)⟩,
   ⟨(some 40), some (32, false), .bin .eql (.t 39) (.c (.int .i64 0))⟩,
   ⟨(some 41), some (32, false), .eql true .bool (.t 35) (.t 40)⟩,
   ⟨(some 42), none, .pick (.t 32) (.c (.bool true)) (.t 41)⟩])
 (.cond (.t 42)
  (.seq (.ops [⟨(some 2), none, .mv (.c (.bool false))⟩])
  .ret)
  .skip))
 (.seq (.ops [⟨(some 43), none, .mv (.t 4)⟩,
   ⟨(some 44), none, .mv (.t 5)⟩,
   ⟨(some 45), none, .idx 1 (.t 43) (.t 44)⟩,
   ⟨(some 46), none, .load1 (.t 45)⟩,
   ⟨(some 47), none, .bin .eql (.t 46) (.c (.int .i64 0))⟩,
   ⟨(some 48), none, .mv (.t 47)⟩,
   ⟨(some 49), some (48, false), .mv (.t 9)⟩,
   ⟨(some 50), some (48, false), .len (.t 49)⟩,
   ⟨(some 51), some (48, false), .bin .eql (.t 50) (.c (.int .i64 1))⟩,
   ⟨(some 52), some (48, false), .mv (.t 51)⟩,
   ⟨(some 53), some (52, true), .mv (.t 9)⟩,
   ⟨(some 54), some (52, true), .idx 3 (.t 53) (.c (.int .i64 0))⟩,
   ⟨(some 55), some (52, true), .fld 1 (.t 54)⟩,
   ⟨(some 56), some (52, true), .load1 (.t 55)⟩,
   ⟨(some 57), some (52, true), .mv (.t 4)⟩,
   ⟨(some 58), some (52, true), .mv (.t 5)⟩,
   ⟨(some 59), some (52, true), .idx 1 (.t 57) (.t 58)⟩,
   ⟨(some 60), some (52, true), .load1 (.t 59)⟩,
   ⟨(some 61), some (52, true), .bin .eql (.t 56) (.t 60)⟩,
   ⟨(some 62), some (48, false), .pick (.t 52) (.t 61) (.c (.bool false))⟩,
   ⟨(some 63), none, .pick (.t 48) (.c (.bool true)) (.t 62)⟩,
   ⟨(some 64), none, .mv (.t 63)⟩,
   ⟨(some 65), some (64, true), .callf 9 []⟩,
   ⟨(some 66), none, .pick (.t 64) (.t 65) (.c (.bool false))⟩,
   ⟨(some 2), none, .mv (.t 66)⟩])
 .ret))))))))⟩
def i5 : IFn := ⟨68, [.tmp 2],
 (.seq (.ops [⟨(some 2), none, .mv (.c (.bool false))⟩])
 (.seq (.ops [⟨(some 3), none, .mv (.c (.str [103, 108, 111, 98, 97, 108, 32, 103, 32, 58, 32, 105, 51, 50, 32, 59, 32, 103, 108, 111, 98, 97, 108, 32, 104, 32, 58, 32, 105, 51, 50, 32, 59, 32, 103, 108, 111, 98, 97, 108, 32, 97, 32, 58, 32, 117, 56, 32, 91, 32, 50, 32, 93, 32, 59, 32, 102, 110, 32, 107, 32, 40, 32, 41, 32, 97, 115, 115, 105, 103, 110, 115, 32, 103, 32, 59, 32, 123, 32, 103, 32, 61, 32, 49, 32, 59, 32, 125, 32]))⟩])
 (.seq (.ops [⟨(some 11), none, .bslice 9 1 12 [(.str []), (.str []), (.str []), (.str []), (.str []), (.str []), (.str []), (.str []), (.str []), (.str []), (.str []), (.str [])] [(0, 1, (.c (.str [102, 110, 32, 102, 32, 40, 32, 41, 32, 97, 115, 115, 105, 103, 110, 115, 32, 103, 32, 59, 32, 123, 32, 103, 32, 61, 32, 49, 32, 59, 32, 125]))), (1, 1, (.c (.str [102, 110, 32, 102, 32, 40, 32, 41, 32, 123, 32, 103, 32, 61, 32, 49, 32, 59, 32, 125]))), (2, 1, (.c (.str [102, 110, 32, 102, 32, 40, 32, 41, 32, 97, 115, 115, 105, 103, 110, 115, 32, 104, 32, 59, 32, 123, 32, 99, 97, 108, 108, 32, 107, 32, 40, 32, 41, 32, 59, 32, 125]))), (3, 1, (.c (.str [102, 110, 32, 102, 32, 40, 32, 41, 32, 97, 115, 115, 105, 103, 110, 115, 32, 103, 32, 59, 32, 123, 32, 99, 97, 108, 108, 32, 107, 32, 40, 32, 41, 32, 59, 32, 125]))), (4, 1, (.c (.str [102, 110, 32, 102, 32, 40, 32, 41, 32, 97, 115, 115, 105, 103, 110, 115, 32, 97, 32, 59, 32, 123, 32, 97, 32, 91, 32, 48, 32, 93, 32, 61, 32, 49, 32, 59, 32, 125]))), (5, 1, (.c (.str [102, 110, 32, 102, 32, 40, 32, 41, 32, 123, 32, 97, 32, 91, 32, 48, 32, 93, 32, 61, 32, 49, 32, 59, 32, 125]))), (6, 1, (.c (.str [102, 110, 32, 102, 32, 40, 32, 98, 32, 58, 32, 117, 56, 32, 91, 32, 50, 32, 93, 32, 41, 32, 123, 32, 98, 32, 91, 32, 48, 32, 93, 32, 61, 32, 49, 32, 59, 32, 125]))), (7, 1, (.c (.str [102, 110, 32, 102, 32, 40, 32, 120, 32, 58, 32, 105, 51, 50, 32, 41, 32, 123, 32, 120, 32, 61, 32, 49, 32, 59, 32, 125]))), (8, 1, (.c (.str [102, 110, 32, 102, 32, 40, 32, 120, 32, 58, 32, 105, 51, 50, 32, 41, 32, 123, 32, 119, 104, 105, 108, 101, 32, 120, 32, 60, 32, 51, 32, 97, 115, 115, 105, 103, 110, 115, 32, 110, 111, 116, 104, 105, 110, 103, 32, 59, 32, 123, 32, 120, 32, 61, 32, 52, 32, 59, 32, 125, 32, 125]))), (9, 1, (.c (.str [102, 110, 32, 102, 32, 40, 32, 120, 32, 58, 32, 105, 51, 50, 32, 41, 32, 123, 32, 119, 104, 105, 108, 101, 32, 120, 32, 60, 32, 51, 32, 97, 115, 115, 105, 103, 110, 115, 32, 120, 32, 59, 32, 123, 32, 108, 101, 116, 32, 118, 32, 58, 32, 105, 51, 50, 32, 61, 32, 49, 32, 59, 32, 118, 32, 61, 32, 50, 32, 59, 32, 120, 32, 61, 32, 52, 32, 59, 32, 125, 32, 125]))), (10, 1, (.c (.str [102, 110, 32, 102, 32, 40, 32, 120, 32, 58, 32, 105, 51, 50, 32, 41, 32, 97, 115, 115, 105, 103, 110, 115, 32, 103, 32, 59, 32, 123, 32, 119, 104, 105, 108, 101, 32, 120, 32, 60, 32, 51, 32, 97, 115, 115, 105, 103, 110, 115, 32, 120, 32, 59, 32, 123, 32, 120, 32, 61, 32, 52, 32, 59, 32, 99, 97, 108, 108, 32, 107, 32, 40, 32, 41, 32, 59, 32, 125, 32, 125]))), (11, 1, (.c (.str [102, 110, 32, 102, 32, 40, 32, 41, 32, 97, 115, 115, 105, 103, 110, 115, 32, 122, 32, 59, 32, 123, 32, 125])))]⟩,
   ⟨(some 4), none, .mv (.t 11)⟩])
 (.seq (.ops [⟨(some 12), none, .bslice 3 1 12 [(.int .i64 0), (.int .i64 0), (.int .i64 0), (.int .i64 0), (.int .i64 0), (.int .i64 0), (.int .i64 0), (.int .i64 0), (.int .i64 0), (.int .i64 0), (.int .i64 0), (.int .i64 0)] [(0, 1, (.c (.int .i64 0))), (1, 1, (.c (.int .i64 10))), (2, 1, (.c (.int .i64 10))), (3, 1, (.c (.int .i64 0))), (4, 1, (.c (.int .i64 0))), (5, 1, (.c (.int .i64 10))), (6, 1, (.c (.int .i64 10))), (7, 1, (.c (.int .i64 0))), (8, 1, (.c (.int .i64 10))), (9, 1, (.c (.int .i64 0))), (10, 1, (.c (.int .i64 10))), (11, 1, (.c (.int .i64 2)))]⟩,
   ⟨(some 5), none, .mv (.t 12)⟩])
 (.seq (.ops [⟨(some 13), none, .mv (.t 0)⟩,
   ⟨(some 14), none, .conv .i64 (.t 13)⟩,
   ⟨(some 15), none, .mv (.t 4)⟩,
   ⟨(some 16), none, .len (.t 15)⟩,
   ⟨(some 17), none, .bin .rem (.t 14) (.t 16)⟩,
   ⟨(some 6), none, .mv (.t 17)⟩])
 (.seq (.ops [⟨(some 19), none, .mv (.t 3)⟩,
   ⟨(some 20), none, .mv (.t 4)⟩,
   ⟨(some 21), none, .mv (.t 6)⟩,
   ⟨(some 22), none, .idx 1 (.t 20) (.t 21)⟩,
   ⟨(some 23), none, .load1 (.t 22)⟩,
   ⟨(some 24), none, .bin .add (.t 19) (.t 23)⟩,
   ⟨(some 25), none, .callf 10 [(.t 24)]⟩,
   ⟨(some 18), none, .mv (.t 25)⟩,
   ⟨(some 26), none, .ext 0 (.t 18)⟩,
   ⟨(some 27), none, .ext 1 (.t 18)⟩,
   ⟨(some 28), none, .ext 2 (.t 18)⟩,
   ⟨(some 7), none, .alloc 27 [.nils, .nils]⟩,
   ⟨none, none, .store 2 (.t 7) (.t 26)⟩,
   ⟨(some 8), none, .mv (.t 27)⟩,
   ⟨(some 9), none, .mv (.t 28)⟩])
 (.seq (.ops [⟨(some 29), none, .loadN 2 (.t 7)⟩,
   ⟨(some 30), none, .callf 16 [(.t 29)]⟩,
   ⟨(some 10), none, .mv (.t 30)⟩])
 (.seq (.ops [⟨(some 31), none, .mv (.t 8)⟩,
   ⟨(some 32), none, .bin .eql (.t 31) (.c (.int .i64 0))⟩,
   ⟨(some 33), none, .mv (.t 32)⟩,
   ⟨(some 34), some (33, true), .mv (.t 10)⟩,
   ⟨(some 35), some (33, true), .len (.t 34)⟩,
   ⟨(some 36), some (33, true), .bin .eql (.t 35) (.c (.int .i64 0))⟩,
   ⟨(some 37), some (33, true), .mv (.t 5)⟩,
   ⟨(some 38), some (33, true), .mv (.t 6)⟩,
   ⟨(some 39), some (33, true), .idx 1 (.t 37) (.t 38)⟩,
   ⟨(some 40), some (33, true), .load1 (.t 39)⟩,
   ⟨(some 41), some (33, true), .bin .eql (.t 40) (.c (.int .i64 0))⟩,
   ⟨(some 42), some (33, true), .eql false .bool (.t 36) (.t 41)⟩,
   ⟨(some 43), none, .pick (.t 33) (.t 42) (.c (.bool false))⟩,
   ⟨(some 44), none, .mv (.t 43)⟩,
   ⟨(some 45), some (44, true), .mv (.t 10)⟩,
   ⟨(some 46), some (44, true), .len (.t 45)⟩,
   ⟨(some 47), some (44, true), .bin .eql (.t 46) (.c (.int .i64 0))⟩,
   ⟨(some 48), some (44, true), .mv (.t 47)⟩,
   ⟨(some 49), some (48, false), .mv (.t 10)⟩,
   ⟨(some 50), some (48, false), .len (.t 49)⟩,
   ⟨(some 51), some (48, false), .bin .eql (.t 50) (.c (.int .i64 1))⟩,
   ⟨(some 52), some (48, false), .mv (.t 51)⟩,
   ⟨(some 53), some (52, true), .mv (.t 10)⟩,
   ⟨(some 54), some (52, true), .idx 3 (.t 53) (.c (.int .i64 0))⟩,
   ⟨(some 55), some (52, true), .fld 1 (.t 54)⟩,
   ⟨(some 56), some (52, true), .load1 (.t 55)⟩,
   ⟨(some 57), some (52, true), .mv (.t 5)⟩,
   ⟨(some 58), some (52, true), .mv (.t 6)⟩,
   ⟨(some 59), some (52, true), .idx 1 (.t 57) (.t 58)⟩,
   ⟨(some 60), some (52, true), .load1 (.t 59)⟩,
   ⟨(some 61), some (52, true), .bin .eql (.t 56) (.t 60)⟩,
   ⟨(some 62), some (48, false), .pick (.t 52) (.t 61) (.c (.bool false))⟩,
   ⟨(some 63), some (44, true), .pick (.t 48) (.c (.bool true)) (.t 62)⟩,
   ⟨(some 64), none, .pick (.t 44) (.t 63) (.c (.bool false))⟩,
   ⟨(some 65), none, .mv (.t 64)⟩,
   ⟨(some 66), some (65, true), .callf 9 []⟩,
   ⟨(some 67), none, .pick (.t 65) (.t 66) (.c (.bool false))⟩,
   ⟨(some 2), none, .mv (.t 67)⟩])
 .ret))))))))⟩
def i6 : IFn := ⟨70, [.tmp 2],
 (.seq (.ops [⟨(some 2), none, .mv (.c (.bool false))⟩])
 (.seq (.ops [⟨(some 3), none, .mv (.c (.str [103, 108, 111, 98, 97, 108, 32, 103, 97, 32, 58, 32, 117, 56, 32, 91, 32, 50, 32, 93, 32, 59, 32, 102, 110, 32, 107, 32, 40, 32, 120, 32, 58, 32, 105, 51, 50, 32, 44, 32, 97, 32, 58, 32, 117, 56, 32, 91, 32, 50, 32, 93, 32, 44, 32, 98, 32, 58, 32, 117, 56, 32, 91, 32, 50, 32, 93, 32, 41, 32, 58, 32, 105, 51, 50, 32, 123, 32, 114, 101, 116, 117, 114, 110, 32, 120, 32, 59, 32, 125, 32, 102, 110, 32, 122, 32, 40, 32, 41, 32, 123, 32, 125, 32]))⟩])
 (.seq (.ops [⟨(some 11), none, .bslice 9 1 12 [(.str []), (.str []), (.str []), (.str []), (.str []), (.str []), (.str []), (.str []), (.str []), (.str []), (.str []), (.str [])] [(0, 1, (.c (.str [99, 97, 108, 108, 32, 107, 32, 40, 32, 49, 32, 44, 32, 112, 32, 44, 32, 113, 32, 41, 32, 59]))), (1, 1, (.c (.str [99, 97, 108, 108, 32, 118, 32, 61, 32, 107, 32, 40, 32, 49, 32, 44, 32, 112, 32, 44, 32, 113, 32, 41, 32, 59]))), (2, 1, (.c (.str [99, 97, 108, 108, 32, 107, 32, 40, 32, 49, 32, 44, 32, 112, 32, 44, 32, 112, 32, 41, 32, 59]))), (3, 1, (.c (.str [99, 97, 108, 108, 32, 107, 32, 40, 32, 49, 32, 44, 32, 112, 32, 44, 32, 103, 97, 32, 41, 32, 59]))), (4, 1, (.c (.str [99, 97, 108, 108, 32, 107, 32, 40, 32, 49, 32, 44, 32, 112, 32, 41, 32, 59]))), (5, 1, (.c (.str [99, 97, 108, 108, 32, 107, 32, 40, 32, 49, 32, 44, 32, 112, 32, 44, 32, 114, 32, 41, 32, 59]))), (6, 1, (.c (.str [99, 97, 108, 108, 32, 107, 32, 40, 32, 49, 32, 44, 32, 112, 32, 44, 32, 115, 32, 41, 32, 59]))), (7, 1, (.c (.str [99, 97, 108, 108, 32, 118, 32, 61, 32, 122, 32, 40, 32, 41, 32, 59]))), (8, 1, (.c (.str [99, 97, 108, 108, 32, 122, 32, 40, 32, 49, 32, 41, 32, 59]))), (9, 1, (.c (.str [99, 97, 108, 108, 32, 122, 122, 32, 40, 32, 41, 32, 59]))), (10, 1, (.c (.str [99, 97, 108, 108, 32, 114, 32, 61, 32, 107, 32, 40, 32, 49, 32, 44, 32, 112, 32, 44, 32, 113, 32, 41, 32, 59]))), (11, 1, (.c (.str [99, 97, 108, 108, 32, 107, 32, 40, 32, 49, 32, 44, 32, 112, 32, 44, 32, 51, 32, 41, 32, 59])))]⟩,
   ⟨(some 4), none, .mv (.t 11)⟩])
 (.seq (.ops [⟨(some 12), none, .bslice 3 1 12 [(.int .i64 0), (.int .i64 0), (.int .i64 0), (.int .i64 0), (.int .i64 0), (.int .i64 0), (.int .i64 0), (.int .i64 0), (.int .i64 0), (.int .i64 0), (.int .i64 0), (.int .i64 0)] [(0, 1, (.c (.int .i64 0))), (1, 1, (.c (.int .i64 0))), (2, 1, (.c (.int .i64 8))), (3, 1, (.c (.int .i64 8))), (4, 1, (.c (.int .i64 8))), (5, 1, (.c (.int .i64 8))), (6, 1, (.c (.int .i64 8))), (7, 1, (.c (.int .i64 8))), (8, 1, (.c (.int .i64 8))), (9, 1, (.c (.int .i64 2))), (10, 1, (.c (.int .i64 3))), (11, 1, (.c (.int .i64 8)))]⟩,
   ⟨(some 5), none, .mv (.t 12)⟩])
 (.seq (.ops [⟨(some 13), none, .mv (.t 0)⟩,
   ⟨(some 14), none, .conv .i64 (.t 13)⟩,
   ⟨(some 15), none, .mv (.t 4)⟩,
   ⟨(some 16), none, .len (.t 15)⟩,
   ⟨(some 17), none, .bin .rem (.t 14) (.t 16)⟩,
   ⟨(some 6), none, .mv (.t 17)⟩])
 (.seq (.ops [⟨(some 19), none, .mv (.t 3)⟩,
   ⟨(some 20), none, .bin .add (.t 19) (.c (.str [102, 110, 32, 102, 32, 40, 32, 112, 32, 58, 32, 117, 56, 32, 91, 32, 50, 32, 93, 32, 44, 32, 113, 32, 58, 32, 117, 56, 32, 91, 32, 50, 32, 93, 32, 41, 32, 123, 32, 108, 101, 116, 32, 114, 32, 58, 32, 117, 56, 32, 91, 32, 51, 32, 93, 32, 59, 32, 108, 101, 116, 32, 115, 32, 58, 32, 105, 56, 32, 91, 32, 50, 32, 93, 32, 59, 32, 108, 101, 116, 32, 118, 32, 58, 32, 105, 51, 50, 32, 61, 32, 48, 32, 59, 32]))⟩,
   ⟨(some 21), none, .mv (.t 4)⟩,
   ⟨(some 22), none, .mv (.t 6)⟩,
   ⟨(some 23), none, .idx 1 (.t 21) (.t 22)⟩,
   ⟨(some 24), none, .load1 (.t 23)⟩,
   ⟨(some 25), none, .bin .add (.t 20) (.t 24)⟩,
   ⟨(some 26), none, .bin .add (.t 25) (.c (.str [32, 125]))⟩,
   ⟨(some 27), none, .callf 10 [(.t 26)]⟩,
   ⟨(some 18), none, .mv (.t 27)⟩,
   ⟨(some 28), none, .ext 0 (.t 18)⟩,
   ⟨(some 29), none, .ext 1 (.t 18)⟩,
   ⟨(some 30), none, .ext 2 (.t 18)⟩,
   ⟨(some 7), none, .alloc 27 [.nils, .nils]⟩,
   ⟨none, none, .store 2 (.t 7) (.t 28)⟩,
   ⟨(some 8), none, .mv (.t 29)⟩,
   ⟨(some 9), none, .mv (.t 30)⟩])
 (.seq (.ops [⟨(some 31), none, .loadN 2 (.t 7)⟩,
   ⟨(some 32), none, .callf 16 [(.t 31)]⟩,
   ⟨(some 10), none, .mv (.t 32)⟩])
 (.seq (.ops [⟨(some 33), none, .mv (.t 8)⟩,
   ⟨(some 34), none, .bin .eql (.t 33) (.c (.int .i64 0))⟩,
   ⟨(some 35), none, .mv (.t 34)⟩,
   ⟨(some 36), some (35, true), .mv (.t 10)⟩,
   ⟨(some 37), some (35, true), .len (.t 36)⟩,
   ⟨(some 38), some (35, true), .bin .eql (.t 37) (.c (.int .i64 0))⟩,
   ⟨(some 39), some (35, true), .mv (.t 5)⟩,
   ⟨(some 40), some (35, true), .mv (.t 6)⟩,
   ⟨(some 41), some (35, true), .idx 1 (.t 39) (.t 40)⟩,
   ⟨(some 42), some (35, true), .load1 (.t 41)⟩,
   ⟨(some 43), some (35, true), .bin .eql (.t 42) (.c (.int .i64 0))⟩,
   ⟨(some 44), some (35, true), .eql false .bool (.t 38) (.t 43)⟩,
   ⟨(some 45), none, .pick (.t 35) (.t 44) (.c (.bool false))⟩,
   ⟨(some 46), none, .mv (.t 45)⟩,
   ⟨(some 47), some (46, true), .mv (.t 10)⟩,
   ⟨(some 48), some (46, true), .len (.t 47)⟩,
   ⟨(some 49), some (46, true), .bin .eql (.t 48) (.c (.int .i64 0))⟩,
   ⟨(some 50), some (46, true), .mv (.t 49)⟩,
   ⟨(some 51), some (50, false), .mv (.t 10)⟩,
   ⟨(some 52), some (50, false), .len (.t 51)⟩,
   ⟨(some 53), some (50, false), .bin .eql (.t 52) (.c (.int .i64 1))⟩,
   ⟨(some 54), some (50, false), .mv (.t 53)⟩,
   ⟨(some 55), some (54, true), .mv (.t 10)⟩,
   ⟨(some 56), some (54, true), .idx 3 (.t 55) (.c (.int .i64 0))⟩,
   ⟨(some 57), some (54, true), .fld 1 (.t 56)⟩,
   ⟨(some 58), some (54, true), .load1 (.t 57)⟩,
   ⟨(some 59), some (54, true), .mv (.t 5)⟩,
   ⟨(some 60), some (54, true), .mv (.t 6)⟩,
   ⟨(some 61), some (54, true), .idx 1 (.t 59) (.t 60)⟩,
   ⟨(some 62), some (54, true), .load1 (.t 61)⟩,
   ⟨(some 63), some (54, true), .bin .eql (.t 58) (.t 62)⟩,
   ⟨(some 64), some (50, false), .pick (.t 54) (.t 63) (.c (.bool false))⟩,
   ⟨(some 65), some (46, true), .pick (.t 50) (.c (.bool true)) (.t 64)⟩,
   ⟨(some 66), none, .pick (.t 46) (.t 65) (.c (.bool false))⟩,
   ⟨(some 67), none, .mv (.t 66)⟩,
   ⟨(some 68), some (67, true), .callf 9 []⟩,
   ⟨(some 69), none, .pick (.t 67) (.t 68) (.c (.bool false))⟩,
   ⟨(some 2), none, .mv (.t 69)⟩])
 .ret))))))))⟩
def i9 : IFn := ⟨43, [.tmp 0],
 (.seq (.ops [⟨(some 0), none, .mv (.c (.bool false))⟩])
 (.seq (.ops [⟨(some 6), none, .callf 10 [(.c (.str [102, 110, 32, 102, 32, 40, 32, 120, 32, 58, 32, 117, 56, 32, 41, 32, 123, 32, 120, 32, 61, 32, 121, 32, 59, 32, 125]))]⟩,
   ⟨(some 5), none, .mv (.t 6)⟩,
   ⟨(some 7), none, .ext 0 (.t 5)⟩,
   ⟨(some 8), none, .ext 1 (.t 5)⟩,
   ⟨(some 9), none, .ext 2 (.t 5)⟩,
   ⟨(some 1), none, .alloc 27 [.nils, .nils]⟩,
   ⟨none, none, .store 2 (.t 1) (.t 7)⟩,
   ⟨(some 2), none, .mv (.t 8)⟩,
   ⟨(some 3), none, .mv (.t 9)⟩])
 (.seq (.ops [⟨(some 10), none, .loadN 2 (.t 1)⟩,
   ⟨(some 11), none, .callf 16 [(.t 10)]⟩,
   ⟨(some 4), none, .mv (.t 11)⟩])
 (.seq (.ops [⟨(some 12), none, .build [.nils, .nils] []⟩,
   ⟨(some 13), none, .callf 16 [(.t 12)]⟩,
   ⟨(some 14), none, .len (.t 13)⟩,
   ⟨(some 15), none, .bin .eql (.t 14) (.c (.int .i64 0))⟩,
   ⟨(some 16), none, .mv (.t 15)⟩,
   ⟨(some 17), some (16, true), .mv (.t 2)⟩,
   ⟨(some 18), some (16, true), .bin .eql (.t 17) (.c (.int .i64 0))⟩,
   ⟨(some 19), none, .pick (.t 16) (.t 18) (.c (.bool false))⟩,
   ⟨(some 20), none, .mv (.t 19)⟩,
   ⟨(some 21), some (20, true), .mv (.t 4)⟩,
   ⟨(some 22), some (20, true), .len (.t 21)⟩,
   ⟨(some 23), some (20, true), .bin .eql (.t 22) (.c (.int .i64 1))⟩,
   ⟨(some 24), none, .pick (.t 20) (.t 23) (.c (.bool false))⟩,
   ⟨(some 25), none, .mv (.t 24)⟩,
   ⟨(some 26), some (25, true), .mv (.t 4)⟩,
   ⟨(some 27), some (25, true), .idx 3 (.t 26) (.c (.int .i64 0))⟩,
   ⟨(some 28), some (25, true), .fld 1 (.t 27)⟩,
   ⟨(some 29), some (25, true), .load1 (.t 28)⟩,
   ⟨(some 30), some (25, true), .bin .eql (.t 29) (.c (.int .i64 2))⟩,
   ⟨(some 31), none, .pick (.t 25) (.t 30) (.c (.bool false))⟩,
   ⟨(some 32), none, .mv (.t 31)⟩,
   ⟨(some 33), some (32, true), .mv (.t 4)⟩,
   ⟨(some 34), some (32, true), .idx 3 (.t 33) (.c (.int .i64 0))⟩,
   ⟨(some 35), some (32, true), .fld 2 (.t 34)⟩,
   ⟨(some 36), some (32, true), .load1 (.t 35)⟩,
   ⟨(some 37), some (32, true), .bin .eql (.t 36) (.c (.str [121]))⟩,
   ⟨(some 38), none, .pick (.t 32) (.t 37) (.c (.bool false))⟩,
   ⟨(some 39), none, .mv (.t 38)⟩,
   ⟨(some 40), some (39, true), .callf 23 [(.c (.int .i64 0))]⟩,
   ⟨(some 41), some (39, true), .bin .eql (.t 40) (.c (.int .i64 0))⟩,
   ⟨(some 42), none, .pick (.t 39) (.t 41) (.c (.bool false))⟩,
   ⟨(some 0), none, .mv (.t 42)⟩])
 .ret))))⟩
def i10 : IFn := ⟨41, [.cellN 2 2, .tmp 3, .tmp 4],
 (.seq (.ops [⟨(some 2), none, .alloc 27 [.nils, .nils]⟩,
   ⟨(some 3), none, .mv (.c (.int .i64 0))⟩,
   ⟨(some 4), none, .mv (.c (.int .i64 0))⟩])
 (.seq (.ops [⟨(some 11), none, .mv (.t 0)⟩,
   ⟨(some 12), none, .callf 24 [(.t 11)]⟩,
   ⟨(some 10), none, .mv (.t 12)⟩,
   ⟨(some 13), none, .ext 0 (.t 10)⟩,
   ⟨(some 14), none, .ext 1 (.t 10)⟩,
   ⟨(some 15), none, .ext 2 (.t 10)⟩,
   ⟨(some 5), none, .mv (.t 13)⟩,
   ⟨(some 6), none, .mv (.t 14)⟩,
   ⟨(some 7), none, .mv (.t 15)⟩])
 (.seq (.seq (.ops [⟨(some 16), none, .mv (.t 6)⟩,
   ⟨(some 17), none, .bin .neq (.t 16) (.c (.int .i64 0))⟩])
 (.cond (.t 17)
  (.seq (.ops [⟨(some 18), none, .build [.nils, .nils] []⟩,
    ⟨(some 19), none, .mv (.t 6)⟩,
    ⟨(some 20), none, .mv (.t 7)⟩,
    ⟨none, none, .store 2 (.t 2) (.t 18)⟩,
    ⟨(some 3), none, .mv (.t 19)⟩,
    ⟨(some 4), none, .mv (.t 20)⟩])
  .ret)
  .skip))
 (.seq (.ops [⟨(some 21), none, .mv (.t 5)⟩,
   ⟨(some 22), none, .build [.nils, (.int .i64 0), (.int .i64 0), (.int .i64 0), (.int .i64 0)] [(0, 1, (.t 21))]⟩,
   ⟨(some 23), none, .box 66 (.t 22)⟩,
   ⟨(some 8), none, .mv (.t 23)⟩])
 (.seq (.ops [⟨(some 24), none, .mv (.t 8)⟩,
   ⟨(some 25), none, .callf 25 [(.t 24)]⟩,
   ⟨(some 9), none, .alloc 27 [.nils, .nils]⟩,
   ⟨none, none, .store 2 (.t 9) (.t 25)⟩])
 (.seq (.seq (.ops [⟨(some 26), none, .mv (.t 8)⟩,
   ⟨(some 27), none, .nilchk (.t 26)⟩,
   ⟨(some 28), none, .fld 3 (.t 27)⟩,
   ⟨(some 29), none, .load1 (.t 28)⟩,
   ⟨(some 30), none, .bin .neq (.t 29) (.c (.int .i64 0))⟩])
 (.cond (.t 30)
  (.seq (.ops [⟨(some 31), none, .build [.nils, .nils] []⟩,
    ⟨(some 32), none, .mv (.t 8)⟩,
    ⟨(some 33), none, .nilchk (.t 32)⟩,
    ⟨(some 34), none, .fld 3 (.t 33)⟩,
    ⟨(some 35), none, .load1 (.t 34)⟩,
    ⟨(some 36), none, .mv (.t 8)⟩,
    ⟨(some 37), none, .nilchk (.t 36)⟩,
    ⟨(some 38), none, .fld 4 (.t 37)⟩,
    ⟨(some 39), none, .load1 (.t 38)⟩,
    ⟨none, none, .store 2 (.t 2) (.t 31)⟩,
    ⟨none, none, .again 35 (.load1 (.t 34))⟩,
    ⟨none, none, .again 39 (.load1 (.t 38))⟩,
    ⟨(some 3), none, .mv (.t 35)⟩,
    ⟨(some 4), none, .mv (.t 39)⟩])
  .ret)
  .skip))
 (.seq (.ops [⟨(some 40), none, .loadN 2 (.t 9)⟩,
   ⟨none, none, .store 2 (.t 2) (.t 40)⟩,
   ⟨(some 3), none, .mv (.c (.int .i64 0))⟩,
   ⟨(some 4), none, .mv (.c (.int .i64 0))⟩])
 .ret)))))))⟩
def i12 : IFn := ⟨106, [.cellN 2 4],
 (.seq (.ops [⟨(some 2), none, .box 27 (.t 0)⟩,
   ⟨(some 3), none, .box 40 (.t 1)⟩,
   ⟨(some 4), none, .alloc 33 [.nils, .nils]⟩])
 (.seq (.ops [⟨(some 5), none, .mv (.c .nils)⟩,
   ⟨(some 6), none, .mv (.c .nils)⟩])
 (.seq (.seq (.ops [⟨(some 15), none, .fld 2 (.t 3)⟩,
   ⟨(some 16), none, .load1 (.t 15)⟩,
   ⟨(some 17), none, .len (.t 16)⟩,
   ⟨(some 18), none, .mv (.c (.int .i64 0))⟩])
 (.block 0 (.loop (.seq (.ops [⟨(some 19), none, .bin .lss (.t 18) (.t 17)⟩])
   (.seq (.cond (.t 19)
    .skip
    (.exit 0))
   (.seq (.block 1 (.seq (.ops [⟨(some 20), none, .idx 4 (.t 16) (.t 18)⟩,
      ⟨(some 21), none, .loadN 4 (.t 20)⟩,
      ⟨(some 8), none, .alloc 77 [(.str []), (.int .i64 0), (.int .i64 0), (.int .i64 0)]⟩,
      ⟨none, none, .store 4 (.t 8) (.t 21)⟩])
    (.seq (.ops [⟨(some 22), none, .fld 0 (.t 8)⟩,
      ⟨(some 23), none, .load1 (.t 22)⟩,
      ⟨(some 24), none, .fld 1 (.t 8)⟩,
      ⟨(some 25), none, .load1 (.t 24)⟩,
      ⟨(some 26), none, .fld 2 (.t 8)⟩,
      ⟨(some 27), none, .load1 (.t 26)⟩,
      ⟨(some 28), none, .build [(.str []), (.int .i64 0), (.int .i64 0), (.int .i64 0)] [(0, 1, (.t 23)), (1, 1, (.t 25)), (2, 1, (.t 27))]⟩,
      ⟨(some 9), none, .alloc 53 [(.str []), (.int .i64 0), (.int .i64 0), (.int .i64 0)]⟩,
      ⟨none, none, .store 4 (.t 9) (.t 28)⟩])
    (.seq (.ops [⟨(some 29), none, .fld 2 (.t 8)⟩,
      ⟨(some 30), none, .load1 (.t 29)⟩,
      ⟨(some 31), none, .bin .eql (.t 30) (.c (.int .i64 0))⟩])
    (.cond (.t 31)
     (.ops [⟨(some 32), none, .mv (.t 5)⟩,
       ⟨(some 33), none, .loadN 4 (.t 9)⟩,
       ⟨(some 34), none, .bslice 53 4 1 [(.str []), (.int .i64 0), (.int .i64 0), (.int .i64 0)] [(0, 4, (.t 33))]⟩,
       ⟨(some 35), none, .append 53 4 40 (.t 32) (.t 34)⟩,
       ⟨(some 5), none, .mv (.t 35)⟩])
     (.ops [⟨(some 36), none, .mv (.t 6)⟩,
       ⟨(some 37), none, .loadN 4 (.t 9)⟩,
       ⟨(some 38), none, .bslice 53 4 1 [(.str []), (.int .i64 0), (.int .i64 0), (.int .i64 0)] [(0, 4, (.t 37))]⟩,
       ⟨(some 39), none, .append 53 4 40 (.t 36) (.t 38)⟩,
       ⟨(some 6), none, .mv (.t 39)⟩]))))))
   (.ops [⟨(some 40), none, .bin .add (.t 18) (.c (.int .i64 1))⟩,
     ⟨(some 18), none, .mv (.t 40)⟩])))))))
 (.seq (.seq (.ops [⟨(some 41), none, .fld 0 (.t 2)⟩,
   ⟨(some 42), none, .load1 (.t 41)⟩,
   ⟨(some 43), none, .len (.t 42)⟩,
   ⟨(some 44), none, .mv (.c (.int .i64 0))⟩])
 (.block 2 (.loop (.seq (.ops [⟨(some 45), none, .bin .lss (.t 44) (.t 43)⟩])
   (.seq (.cond (.t 45)
    .skip
    (.exit 2))
   (.seq (.block 3 (.seq (.ops [⟨(some 46), none, .idx 5 (.t 42) (.t 44)⟩,
      ⟨(some 47), none, .loadN 5 (.t 46)⟩,
      ⟨(some 11), none, .alloc 79 [(.str []), (.int .i64 0), (.int .i64 0), (.int .i64 0), (.int .i64 0)]⟩,
      ⟨none, none, .store 5 (.t 11) (.t 47)⟩])
    (.seq (.ops [⟨(some 48), none, .fld 0 (.t 11)⟩,
      ⟨(some 49), none, .load1 (.t 48)⟩,
      ⟨(some 50), none, .fld 1 (.t 11)⟩,
      ⟨(some 51), none, .load1 (.t 50)⟩,
      ⟨(some 52), none, .fld 2 (.t 11)⟩,
      ⟨(some 53), none, .load1 (.t 52)⟩,
      ⟨(some 54), none, .build [(.str []), (.int .i64 0), (.int .i64 0), (.int .i64 0)] [(0, 1, (.t 49)), (1, 1, (.t 51)), (2, 1, (.t 53))]⟩,
      ⟨(some 12), none, .alloc 53 [(.str []), (.int .i64 0), (.int .i64 0), (.int .i64 0)]⟩,
      ⟨none, none, .store 4 (.t 12) (.t 54)⟩])
    (.seq (.ops [⟨(some 55), none, .fld 2 (.t 11)⟩,
      ⟨(some 56), none, .load1 (.t 55)⟩,
      ⟨(some 57), none, .bin .eql (.t 56) (.c (.int .i64 0))⟩])
    (.cond (.t 57)
     (.ops [⟨(some 58), none, .mv (.t 5)⟩,
       ⟨(some 59), none, .loadN 4 (.t 12)⟩,
       ⟨(some 60), none, .bslice 53 4 1 [(.str []), (.int .i64 0), (.int .i64 0), (.int .i64 0)] [(0, 4, (.t 59))]⟩,
       ⟨(some 61), none, .append 53 4 40 (.t 58) (.t 60)⟩,
       ⟨(some 5), none, .mv (.t 61)⟩])
     (.ops [⟨(some 62), none, .mv (.t 6)⟩,
       ⟨(some 63), none, .loadN 4 (.t 12)⟩,
       ⟨(some 64), none, .bslice 53 4 1 [(.str []), (.int .i64 0), (.int .i64 0), (.int .i64 0)] [(0, 4, (.t 63))]⟩,
       ⟨(some 65), none, .append 53 4 40 (.t 62) (.t 64)⟩,
       ⟨(some 6), none, .mv (.t 65)⟩]))))))
   (.ops [⟨(some 66), none, .bin .add (.t 44) (.c (.int .i64 1))⟩,
     ⟨(some 44), none, .mv (.t 66)⟩])))))))
 (.seq (.seq (.ops [⟨(some 67), none, .mv (.t 5)⟩,
   ⟨(some 68), none, .callf 32 [(.t 67)]⟩,
   ⟨(some 69), none, .len (.t 68)⟩,
   ⟨(some 70), none, .mv (.c (.int .i64 0))⟩])
 (.block 4 (.loop (.seq (.ops [⟨(some 71), none, .bin .lss (.t 70) (.t 69)⟩])
   (.seq (.cond (.t 71)
    .skip
    (.exit 4))
   (.seq (.block 5 (.seq (.ops [⟨(some 72), none, .idx 4 (.t 68) (.t 70)⟩,
      ⟨(some 73), none, .loadN 4 (.t 72)⟩,
      ⟨(some 14), none, .alloc 53 [(.str []), (.int .i64 0), (.int .i64 0), (.int .i64 0)]⟩,
      ⟨none, none, .store 4 (.t 14) (.t 73)⟩])
    (.seq (.ops [⟨(some 74), none, .fld 0 (.t 14)⟩,
      ⟨(some 75), none, .load1 (.t 74)⟩,
      ⟨(some 76), none, .bin .add (.c (.str [111, 108, 100, 32])) (.t 75)⟩,
      ⟨(some 77), none, .fld 0 (.t 14)⟩,
      ⟨none, none, .store 1 (.t 77) (.t 76)⟩])
    (.ops [⟨(some 78), none, .mv (.t 5)⟩,
      ⟨(some 79), none, .loadN 4 (.t 14)⟩,
      ⟨(some 80), none, .bslice 53 4 1 [(.str []), (.int .i64 0), (.int .i64 0), (.int .i64 0)] [(0, 4, (.t 79))]⟩,
      ⟨(some 81), none, .append 53 4 40 (.t 78) (.t 80)⟩,
      ⟨(some 5), none, .mv (.t 81)⟩]))))
   (.ops [⟨(some 82), none, .bin .add (.t 70) (.c (.int .i64 1))⟩,
     ⟨(some 70), none, .mv (.t 82)⟩])))))))
 (.seq (.ops [⟨(some 83), none, .mv (.t 5)⟩,
   ⟨(some 84), none, .fld 7 (.t 3)⟩,
   ⟨(some 85), none, .load1 (.t 84)⟩,
   ⟨(some 86), none, .callf 33 [(.t 85), (.c (.int .i64 1))]⟩,
   ⟨(some 87), none, .append 53 4 40 (.t 83) (.t 86)⟩,
   ⟨(some 5), none, .mv (.t 87)⟩])
 (.seq (.seq (.ops [⟨(some 88), none, .fld 3 (.t 3)⟩,
   ⟨(some 89), none, .load1 (.t 88)⟩,
   ⟨(some 90), none, .bin .neq (.t 89) (.c (.int .i64 0))⟩])
 (.cond (.t 90)
  (.ops [⟨(some 91), none, .mv (.t 5)⟩,
    ⟨(some 92), none, .fld 3 (.t 3)⟩,
    ⟨(some 93), none, .load1 (.t 92)⟩,
    ⟨(some 94), none, .build [(.str []), (.int .i64 0), (.int .i64 0), (.int .i64 0)] [(0, 1, (.c (.str [114, 101, 115, 117, 108, 116]))), (1, 1, (.t 93))]⟩,
    ⟨(some 95), none, .bslice 53 4 1 [(.str []), (.int .i64 0), (.int .i64 0), (.int .i64 0)] [(0, 4, (.t 94))]⟩,
    ⟨(some 96), none, .append 53 4 40 (.t 91) (.t 95)⟩,
    ⟨(some 5), none, .mv (.t 96)⟩])
  .skip))
 (.seq (.ops [⟨(some 97), none, .mv (.t 5)⟩,
   ⟨(some 99), none, .mv (.t 6)⟩,
   ⟨(some 100), none, .fld 7 (.t 3)⟩,
   ⟨(some 101), none, .load1 (.t 100)⟩,
   ⟨(some 98), none, .callf 34 [(.t 97)]⟩,
   ⟨none, none, .again 101 (.load1 (.t 100))⟩,
   ⟨(some 102), none, .callf 33 [(.t 101), (.c (.int .i64 2))]⟩,
   ⟨(some 103), none, .append 53 4 40 (.t 99) (.t 102)⟩,
   ⟨(some 104), none, .callf 34 [(.t 103)]⟩,
   ⟨(some 105), none, .build [.nils, .nils] [(0, 1, (.t 98)), (1, 1, (.t 104))]⟩,
   ⟨none, none, .store 2 (.t 4) (.t 105)⟩])
 .ret))))))))⟩
def i16 : IFn := ⟨22, [.tmp 2],
 (.seq (.ops [⟨(some 1), none, .box 27 (.t 0)⟩,
   ⟨(some 2), none, .mv (.c .nils)⟩])
 (.seq (.ops [⟨(some 6), none, .loadN 2 (.t 1)⟩,
   ⟨(some 7), none, .callf 37 [(.t 6)]⟩,
   ⟨(some 3), none, .mv (.t 7)⟩])
 (.seq (.seq (.ops [⟨(some 8), none, .fld 1 (.t 1)⟩,
   ⟨(some 9), none, .load1 (.t 8)⟩,
   ⟨(some 10), none, .len (.t 9)⟩,
   ⟨(some 11), none, .mv (.c (.int .i64 0))⟩])
 (.block 0 (.loop (.seq (.ops [⟨(some 12), none, .bin .lss (.t 11) (.t 10)⟩])
   (.seq (.cond (.t 12)
    .skip
    (.exit 0))
   (.seq (.block 1 (.seq (.ops [⟨(some 13), none, .idx 8 (.t 9) (.t 11)⟩,
      ⟨(some 14), none, .loadN 8 (.t 13)⟩,
      ⟨(some 5), none, .alloc 40 [(.str []), (.int .i64 0), .nils, (.int .i64 0), .nils, .nils, .nils, .nils]⟩,
      ⟨none, none, .store 8 (.t 5) (.t 14)⟩])
    (.ops [⟨(some 15), none, .mv (.t 3)⟩,
      ⟨(some 16), none, .loadN 2 (.t 1)⟩,
      ⟨(some 17), none, .loadN 8 (.t 5)⟩,
      ⟨(some 18), none, .callf 38 [(.t 16), (.t 17)]⟩,
      ⟨(some 19), none, .append 48 3 32 (.t 15) (.t 18)⟩,
      ⟨(some 3), none, .mv (.t 19)⟩])))
   (.ops [⟨(some 20), none, .bin .add (.t 11) (.c (.int .i64 1))⟩,
     ⟨(some 11), none, .mv (.t 20)⟩])))))))
 (.seq (.ops [⟨(some 21), none, .mv (.t 3)⟩,
   ⟨(some 2), none, .mv (.t 21)⟩])
 .ret))))⟩
def i23 : IFn := ⟨4, [.tmp 2],
 (.seq (.ops [⟨(some 2), none, .mv (.c (.int .i64 0))⟩])
 (.seq (.ops [⟨(some 3), none, .mv (.t 0)⟩,
   ⟨(some 2), none, .mv (.t 3)⟩])
 .ret))⟩
def i24 : IFn := ⟨149, [.tmp 2, .tmp 3, .tmp 4],
 (.seq (.ops [⟨(some 2), none, .mv (.c .nils)⟩,
   ⟨(some 3), none, .mv (.c (.int .i64 0))⟩,
   ⟨(some 4), none, .mv (.c (.int .i64 0))⟩])
 (.seq (.seq (.ops [⟨(some 13), none, .mv (.t 0)⟩,
   ⟨(some 14), none, .slen (.t 13)⟩,
   ⟨(some 15), none, .bin .gtr (.t 14) (.c (.int .i64 8192))⟩])
 (.cond (.t 15)
  (.seq (.ops [⟨(some 2), none, .mv (.c .nils)⟩,
    ⟨(some 3), none, .mv (.c (.int .i64 3))⟩,
    ⟨(some 4), none, .mv (.c (.int .i64 8192))⟩])
  .ret)
  .skip))
 (.seq (.ops [⟨(some 5), none, .mv (.c .nils)⟩])
 (.seq (.seq (.ops [⟨(some 6), none, .mv (.c (.int .i64 0))⟩])
 (.block 0 (.loop (.seq (.seq (.ops [⟨(some 16), none, .mv (.t 6)⟩,
     ⟨(some 17), none, .mv (.t 0)⟩,
     ⟨(some 18), none, .slen (.t 17)⟩,
     ⟨(some 19), none, .bin .lss (.t 16) (.t 18)⟩])
   (.cond (.t 19)
    .skip
    (.exit 0)))
   (.block 1 (.seq (.ops [⟨(some 20), none, .mv (.t 0)⟩,
      ⟨(some 21), none, .mv (.t 6)⟩,
      ⟨(some 22), none, .sidx (.t 20) (.t 21)⟩,
      ⟨(some 7), none, .mv (.t 22)⟩])
    (.block 2 (.seq (.ops [⟨(some 40), none, .mv (.t 7)⟩,
       ⟨(some 41), none, .bin .eql (.t 40) (.c (.int .u8 32))⟩,
       ⟨(some 42), none, .mv (.t 41)⟩,
       ⟨(some 43), some (42, false), .mv (.t 7)⟩,
       ⟨(some 44), some (42, false), .bin .eql (.t 43) (.c (.int .u8 9))⟩,
       ⟨(some 45), none, .pick (.t 42) (.c (.bool true)) (.t 44)⟩,
       ⟨(some 46), none, .mv (.t 45)⟩,
       ⟨(some 47), some (46, false), .mv (.t 7)⟩,
       ⟨(some 48), some (46, false), .bin .eql (.t 47) (.c (.int .u8 10))⟩,
       ⟨(some 49), none, .pick (.t 46) (.c (.bool true)) (.t 48)⟩,
       ⟨(some 50), none, .mv (.t 49)⟩,
       ⟨(some 51), some (50, false), .mv (.t 7)⟩,
       ⟨(some 52), some (50, false), .bin .eql (.t 51) (.c (.int .u8 13))⟩,
       ⟨(some 53), none, .pick (.t 50) (.c (.bool true)) (.t 52)⟩,
       ⟨(some 39), none, .mv (.t 53)⟩])
     (.cond (.t 39)
      (.ops [⟨(some 54), none, .mv (.t 6)⟩,
        ⟨(some 55), none, .bin .add (.t 54) (.c (.int .i64 1))⟩,
        ⟨(some 6), none, .mv (.t 55)⟩])
      (.seq (.ops [⟨(some 57), none, .mv (.t 7)⟩,
        ⟨(some 58), none, .bin .eql (.t 57) (.c (.int .u8 35))⟩,
        ⟨(some 56), none, .mv (.t 58)⟩])
      (.cond (.t 56)
       (.block 3 (.loop (.seq (.seq (.ops [⟨(some 59), none, .mv (.t 6)⟩,
           ⟨(some 60), none, .mv (.t 0)⟩,
           ⟨(some 61), none, .slen (.t 60)⟩,
           ⟨(some 62), none, .bin .lss (.t 59) (.t 61)⟩,
           ⟨(some 63), none, .mv (.t 62)⟩,
           ⟨(some 64), some (63, true), .mv (.t 0)⟩,
           ⟨(some 65), some (63, true), .mv (.t 6)⟩,
           ⟨(some 66), some (63, true), .sidx (.t 64) (.t 65)⟩,
           ⟨(some 67), some (63, true), .bin .neq (.t 66) (.c (.int .u8 10))⟩,
           ⟨(some 68), none, .pick (.t 63) (.t 67) (.c (.bool false))⟩])
         (.cond (.t 68)
          .skip
          (.exit 3)))
         (.block 4 (.ops [⟨(some 69), none, .mv (.t 6)⟩,
            ⟨(some 70), none, .bin .add (.t 69) (.c (.int .i64 1))⟩,
            ⟨(some 6), none, .mv (.t 70)⟩])))))
       (.seq (.ops [⟨(some 72), none, .mv (.t 7)⟩,
         ⟨(some 73), none, .callf 50 [(.t 72)]⟩,
         ⟨(some 71), none, .mv (.t 73)⟩])
       (.cond (.t 71)
        (.seq (.ops [⟨(some 74), none, .mv (.t 6)⟩,
          ⟨(some 8), none, .mv (.t 74)⟩])
        (.seq (.block 5 (.loop (.seq (.seq (.ops [⟨(some 75), none, .mv (.t 8)⟩,
            ⟨(some 76), none, .mv (.t 0)⟩,
            ⟨(some 77), none, .slen (.t 76)⟩,
            ⟨(some 78), none, .bin .lss (.t 75) (.t 77)⟩,
            ⟨(some 79), none, .mv (.t 78)⟩,
            ⟨(some 80), some (79, true), .mv (.t 0)⟩,
            ⟨(some 81), some (79, true), .mv (.t 8)⟩,
            ⟨(some 82), some (79, true), .sidx (.t 80) (.t 81)⟩,
            ⟨(some 83), some (79, true), .callf 50 [(.t 82)]⟩,
            ⟨(some 84), some (79, true), .mv (.t 83)⟩,
            ⟨(some 85), some (84, false), .mv (.t 0)⟩,
            ⟨(some 86), some (84, false), .mv (.t 8)⟩,
            ⟨(some 87), some (84, false), .sidx (.t 85) (.t 86)⟩,
            ⟨(some 88), some (84, false), .callf 51 [(.t 87)]⟩,
            ⟨(some 89), some (79, true), .pick (.t 84) (.c (.bool true)) (.t 88)⟩,
            ⟨(some 90), some (79, true), .mv (.t 89)⟩,
            ⟨(some 91), some (90, false), .mv (.t 0)⟩,
            ⟨(some 92), some (90, false), .mv (.t 8)⟩,
            ⟨(some 93), some (90, false), .sidx (.t 91) (.t 92)⟩,
            ⟨(some 94), some (90, false), .bin .eql (.t 93) (.c (.int .u8 95))⟩,
            ⟨(some 95), some (79, true), .pick (.t 90) (.c (.bool true)) (.t 94)⟩,
            ⟨(some 96), none, .pick (.t 79) (.t 95) (.c (.bool false))⟩])
          (.cond (.t 96)
           .skip
           (.exit 5)))
          (.block 6 (.ops [⟨(some 97), none, .mv (.t 8)⟩,
             ⟨(some 98), none, .bin .add (.t 97) (.c (.int .i64 1))⟩,
             ⟨(some 8), none, .mv (.t 98)⟩])))))
        (.seq (.ops [⟨(some 9), none, .mv (.c (.int .i64 1))⟩])
        (.seq (.seq (.ops [⟨(some 99), none, .mv (.t 0)⟩,
          ⟨(some 100), none, .mv (.t 6)⟩,
          ⟨(some 101), none, .mv (.t 8)⟩,
          ⟨(some 102), none, .sslice (.t 99) (some (.t 100)) (some (.t 101))⟩,
          ⟨(some 103), none, .callf 52 [(.t 102)]⟩])
        (.cond (.t 103)
         (.ops [⟨(some 9), none, .mv (.c (.int .i64 3))⟩])
         .skip))
        (.seq (.seq (.ops [⟨(some 104), none, .mv (.t 8)⟩,
          ⟨(some 105), none, .mv (.t 6)⟩,
          ⟨(some 106), none, .bin .sub (.t 104) (.t 105)⟩,
          ⟨(some 107), none, .bin .gtr (.t 106) (.c (.int .i64 20))⟩])
        (.cond (.t 107)
         (.seq (.ops [⟨(some 108), none, .mv (.t 6)⟩,
           ⟨(some 2), none, .mv (.c .nils)⟩,
           ⟨(some 3), none, .mv (.c (.int .i64 3))⟩,
           ⟨(some 4), none, .mv (.t 108)⟩])
         .ret)
         .skip))
        (.seq (.ops [⟨(some 109), none, .mv (.t 5)⟩,
          ⟨(some 110), none, .mv (.t 9)⟩,
          ⟨(some 111), none, .mv (.t 0)⟩,
          ⟨(some 112), none, .mv (.t 6)⟩,
          ⟨(some 113), none, .mv (.t 8)⟩,
          ⟨(some 114), none, .sslice (.t 111) (some (.t 112)) (some (.t 113))⟩,
          ⟨(some 115), none, .mv (.t 6)⟩,
          ⟨(some 116), none, .build [(.int .i64 0), (.str []), (.int .i64 0)] [(0, 1, (.t 110)), (1, 1, (.t 114)), (2, 1, (.t 115))]⟩,
          ⟨(some 117), none, .bslice 101 3 1 [(.int .i64 0), (.str []), (.int .i64 0)] [(0, 3, (.t 116))]⟩,
          ⟨(some 118), none, .append 101 3 32 (.t 109) (.t 117)⟩,
          ⟨(some 5), none, .mv (.t 118)⟩])
        (.ops [⟨(some 119), none, .mv (.t 8)⟩,
          ⟨(some 6), none, .mv (.t 119)⟩])))))))
        (.seq (.ops [⟨(some 121), none, .mv (.t 7)⟩,
          ⟨(some 122), none, .callf 51 [(.t 121)]⟩,
          ⟨(some 120), none, .mv (.t 122)⟩])
        (.cond (.t 120)
         (.seq (.ops [⟨(some 124), none, .mv (.t 0)⟩,
           ⟨(some 125), none, .mv (.t 6)⟩,
           ⟨(some 126), none, .callf 53 [(.t 124), (.t 125)]⟩,
           ⟨(some 123), none, .mv (.t 126)⟩,
           ⟨(some 127), none, .ext 0 (.t 123)⟩,
           ⟨(some 128), none, .ext 1 (.t 123)⟩,
           ⟨(some 10), none, .mv (.t 127)⟩,
           ⟨(some 11), none, .mv (.t 128)⟩])
         (.seq (.seq (.ops [⟨(some 129), none, .mv (.t 11)⟩,
           ⟨(some 130), none, .bin .neq (.t 129) (.c (.int .i64 0))⟩])
         (.cond (.t 130)
          (.seq (.ops [⟨(some 131), none, .mv (.t 11)⟩,
            ⟨(some 132), none, .mv (.t 6)⟩,
            ⟨(some 2), none, .mv (.c .nils)⟩,
            ⟨(some 3), none, .mv (.t 131)⟩,
            ⟨(some 4), none, .mv (.t 132)⟩])
          .ret)
          .skip))
         (.seq (.ops [⟨(some 133), none, .mv (.t 5)⟩,
           ⟨(some 134), none, .mv (.t 0)⟩,
           ⟨(some 135), none, .mv (.t 6)⟩,
           ⟨(some 136), none, .mv (.t 10)⟩,
           ⟨(some 137), none, .sslice (.t 134) (some (.t 135)) (some (.t 136))⟩,
           ⟨(some 138), none, .mv (.t 6)⟩,
           ⟨(some 139), none, .build [(.int .i64 0), (.str []), (.int .i64 0)] [(0, 1, (.c (.int .i64 2))), (1, 1, (.t 137)), (2, 1, (.t 138))]⟩,
           ⟨(some 140), none, .bslice 101 3 1 [(.int .i64 0), (.str []), (.int .i64 0)] [(0, 3, (.t 139))]⟩,
           ⟨(some 141), none, .append 101 3 32 (.t 133) (.t 140)⟩,
           ⟨(some 5), none, .mv (.t 141)⟩])
         (.ops [⟨(some 142), none, .mv (.t 10)⟩,
           ⟨(some 6), none, .mv (.t 142)⟩]))))
         (.seq (.ops [⟨(some 23), none, .mv (.t 0)⟩,
           ⟨(some 24), none, .mv (.t 6)⟩,
           ⟨(some 25), none, .callf 54 [(.t 23), (.t 24)]⟩,
           ⟨(some 12), none, .mv (.t 25)⟩])
         (.seq (.seq (.ops [⟨(some 26), none, .mv (.t 12)⟩,
           ⟨(some 27), none, .bin .eql (.t 26) (.c (.str []))⟩])
         (.cond (.t 27)
          (.seq (.ops [⟨(some 28), none, .mv (.t 6)⟩,
            ⟨(some 2), none, .mv (.c .nils)⟩,
            ⟨(some 3), none, .mv (.c (.int .i64 4))⟩,
            ⟨(some 4), none, .mv (.t 28)⟩])
          .ret)
          .skip))
         (.seq (.ops [⟨(some 29), none, .mv (.t 5)⟩,
           ⟨(some 30), none, .mv (.t 12)⟩,
           ⟨(some 31), none, .mv (.t 6)⟩,
           ⟨(some 32), none, .build [(.int .i64 0), (.str []), (.int .i64 0)] [(0, 1, (.c (.int .i64 4))), (1, 1, (.t 30)), (2, 1, (.t 31))]⟩,
           ⟨(some 33), none, .bslice 101 3 1 [(.int .i64 0), (.str []), (.int .i64 0)] [(0, 3, (.t 32))]⟩,
           ⟨(some 34), none, .append 101 3 32 (.t 29) (.t 33)⟩,
           ⟨(some 5), none, .mv (.t 34)⟩])
         (.ops [⟨(some 35), none, .mv (.t 6)⟩,
           ⟨(some 36), none, .mv (.t 12)⟩,
           ⟨(some 37), none, .slen (.t 36)⟩,
           ⟨(some 38), none, .bin .add (.t 35) (.t 37)⟩,
           ⟨(some 6), none, .mv (.t 38)⟩])))))))))))))))))))
 (.seq (.ops [⟨(some 143), none, .mv (.t 5)⟩,
   ⟨(some 144), none, .mv (.t 0)⟩,
   ⟨(some 145), none, .slen (.t 144)⟩,
   ⟨(some 146), none, .build [(.int .i64 0), (.str []), (.int .i64 0)] [(2, 1, (.t 145))]⟩,
   ⟨(some 147), none, .bslice 101 3 1 [(.int .i64 0), (.str []), (.int .i64 0)] [(0, 3, (.t 146))]⟩,
   ⟨(some 148), none, .append 101 3 32 (.t 143) (.t 147)⟩,
   ⟨(some 2), none, .mv (.t 148)⟩,
   ⟨(some 3), none, .mv (.c (.int .i64 0))⟩,
   ⟨(some 4), none, .mv (.c (.int .i64 0))⟩])
 .ret)))))⟩
def i25 : IFn := ⟨44, [.cellN 2 2],
 (.seq (.ops [⟨(some 2), none, .alloc 27 [.nils, .nils]⟩])
 (.seq (.ops [⟨(some 3), none, .alloc 27 [.nils, .nils]⟩])
 (.seq (.block 0 (.loop (.seq (.seq (.ops [⟨(some 4), none, .mv (.t 0)⟩,
     ⟨(some 5), none, .nilchk (.t 4)⟩,
     ⟨(some 6), none, .fld 3 (.t 5)⟩,
     ⟨(some 7), none, .load1 (.t 6)⟩,
     ⟨(some 8), none, .bin .eql (.t 7) (.c (.int .i64 0))⟩,
     ⟨(some 9), none, .mv (.t 8)⟩,
     ⟨(some 10), some (9, true), .mv (.t 0)⟩,
     ⟨(some 11), some (9, true), .nilchk (.t 10)⟩,
     ⟨(some 12), some (9, true), .fld 0 (.t 11)⟩,
     ⟨(some 13), some (9, true), .load1 (.t 12)⟩,
     ⟨(some 14), some (9, true), .mv (.t 0)⟩,
     ⟨(some 15), some (9, true), .nilchk (.t 14)⟩,
     ⟨(some 16), some (9, true), .fld 1 (.t 15)⟩,
     ⟨(some 17), some (9, true), .load1 (.t 16)⟩,
     ⟨(some 18), some (9, true), .idx 3 (.t 13) (.t 17)⟩,
     ⟨(some 19), some (9, true), .fld 0 (.t 18)⟩,
     ⟨(some 20), some (9, true), .load1 (.t 19)⟩,
     ⟨(some 21), some (9, true), .bin .neq (.t 20) (.c (.int .i64 0))⟩,
     ⟨(some 22), none, .pick (.t 9) (.t 21) (.c (.bool false))⟩])
   (.cond (.t 22)
    .skip
    (.exit 0)))
   (.block 1 (.seq (.ops [⟨(some 23), none, .mv (.t 0)⟩,
      ⟨(some 24), none, .callf 55 [(.t 23), (.c (.str [103, 108, 111, 98, 97, 108]))]⟩])
    (.cond (.t 24)
     (.ops [⟨(some 25), none, .fld 0 (.t 3)⟩,
       ⟨(some 26), none, .load1 (.t 25)⟩,
       ⟨(some 27), none, .mv (.t 0)⟩,
       ⟨(some 28), none, .callf 56 [(.t 27)]⟩,
       ⟨none, none, .again 26 (.load1 (.t 25))⟩,
       ⟨(some 29), none, .bslice 79 5 1 [(.str []), (.int .i64 0), (.int .i64 0), (.int .i64 0), (.int .i64 0)] [(0, 5, (.t 28))]⟩,
       ⟨(some 30), none, .append 79 5 48 (.t 26) (.t 29)⟩,
       ⟨(some 31), none, .fld 0 (.t 3)⟩,
       ⟨none, none, .store 1 (.t 31) (.t 30)⟩])
     (.seq (.ops [⟨(some 32), none, .mv (.t 0)⟩,
       ⟨(some 33), none, .callf 55 [(.t 32), (.c (.str [102, 110]))]⟩])
     (.cond (.t 33)
      (.ops [⟨(some 34), none, .fld 1 (.t 3)⟩,
        ⟨(some 35), none, .load1 (.t 34)⟩,
        ⟨(some 36), none, .mv (.t 0)⟩,
        ⟨(some 37), none, .callf 57 [(.t 36)]⟩,
        ⟨none, none, .again 35 (.load1 (.t 34))⟩,
        ⟨(some 38), none, .bslice 40 8 1 [(.str []), (.int .i64 0), .nils, (.int .i64 0), .nils, .nils, .nils, .nils] [(0, 8, (.t 37))]⟩,
        ⟨(some 39), none, .append 40 8 152 (.t 35) (.t 38)⟩,
        ⟨(some 40), none, .fld 1 (.t 3)⟩,
        ⟨none, none, .store 1 (.t 40) (.t 39)⟩])
      (.ops [⟨(some 41), none, .mv (.t 0)⟩,
        ⟨(some 42), none, .callf 58 [(.t 41), (.c (.int .i64 5))]⟩])))))))))
 (.seq (.ops [⟨(some 43), none, .loadN 2 (.t 3)⟩,
   ⟨none, none, .store 2 (.t 2) (.t 43)⟩])
 .ret))))⟩
def i32 : IFn := ⟨8, [.tmp 2],
 (.seq (.ops [⟨(some 2), none, .mv (.c .nils)⟩])
 (.seq (.seq (.ops [⟨(some 3), none, .mv (.t 0)⟩,
   ⟨(some 4), none, .eql false .slice (.t 3) (.c .nils)⟩])
 (.cond (.t 4)
  (.seq (.ops [⟨(some 2), none, .mv (.c .nils)⟩])
  .ret)
  .skip))
 (.seq (.ops [⟨(some 5), none, .bslice 53 4 0 [] []⟩,
   ⟨(some 6), none, .mv (.t 0)⟩,
   ⟨(some 7), none, .append 53 4 40 (.t 5) (.t 6)⟩,
   ⟨(some 2), none, .mv (.t 7)⟩])
 .ret)))⟩
def i33 : IFn := ⟨42, [.tmp 4],
 (.seq (.ops [⟨(some 4), none, .mv (.c .nils)⟩])
 (.seq (.ops [⟨(some 5), none, .mv (.c .nils)⟩])
 (.seq (.seq (.ops [⟨(some 8), none, .mv (.t 0)⟩,
   ⟨(some 9), none, .len (.t 8)⟩,
   ⟨(some 10), none, .mv (.c (.int .i64 0))⟩])
 (.block 0 (.loop (.seq (.ops [⟨(some 11), none, .bin .lss (.t 10) (.t 9)⟩])
   (.seq (.cond (.t 11)
    .skip
    (.exit 0))
   (.seq (.block 1 (.seq (.ops [⟨(some 12), none, .idx 15 (.t 8) (.t 10)⟩,
      ⟨(some 13), none, .loadN 15 (.t 12)⟩,
      ⟨(some 7), none, .alloc 114 [(.int .i64 0), (.int .i64 0), (.str []), (.int .i64 0), (.int .i64 0), .nils, .nils, (.bool false), (.str []), .nils, .nils, .nils, .nils, .nils, .nils]⟩,
      ⟨none, none, .store 15 (.t 7) (.t 13)⟩])
    (.seq (.seq (.ops [⟨(some 14), none, .fld 0 (.t 7)⟩,
      ⟨(some 15), none, .load1 (.t 14)⟩,
      ⟨(some 16), none, .mv (.t 1)⟩,
      ⟨(some 17), none, .bin .eql (.t 15) (.t 16)⟩])
    (.cond (.t 17)
     (.ops [⟨(some 18), none, .mv (.t 5)⟩,
       ⟨(some 19), none, .fld 2 (.t 7)⟩,
       ⟨(some 20), none, .load1 (.t 19)⟩,
       ⟨(some 21), none, .fld 3 (.t 7)⟩,
       ⟨(some 22), none, .load1 (.t 21)⟩,
       ⟨(some 23), none, .fld 4 (.t 7)⟩,
       ⟨(some 24), none, .load1 (.t 23)⟩,
       ⟨(some 25), none, .build [(.str []), (.int .i64 0), (.int .i64 0), (.int .i64 0)] [(0, 1, (.t 20)), (1, 1, (.t 22)), (2, 1, (.t 24))]⟩,
       ⟨(some 26), none, .bslice 53 4 1 [(.str []), (.int .i64 0), (.int .i64 0), (.int .i64 0)] [(0, 4, (.t 25))]⟩,
       ⟨(some 27), none, .append 53 4 40 (.t 18) (.t 26)⟩,
       ⟨(some 5), none, .mv (.t 27)⟩])
     .skip))
    (.seq (.ops [⟨(some 28), none, .mv (.t 5)⟩,
      ⟨(some 29), none, .fld 13 (.t 7)⟩,
      ⟨(some 30), none, .load1 (.t 29)⟩,
      ⟨(some 31), none, .mv (.t 1)⟩,
      ⟨(some 32), none, .callf 33 [(.t 30), (.t 31)]⟩,
      ⟨(some 33), none, .append 53 4 40 (.t 28) (.t 32)⟩,
      ⟨(some 5), none, .mv (.t 33)⟩])
    (.ops [⟨(some 34), none, .mv (.t 5)⟩,
      ⟨(some 35), none, .fld 14 (.t 7)⟩,
      ⟨(some 36), none, .load1 (.t 35)⟩,
      ⟨(some 37), none, .mv (.t 1)⟩,
      ⟨(some 38), none, .callf 33 [(.t 36), (.t 37)]⟩,
      ⟨(some 39), none, .append 53 4 40 (.t 34) (.t 38)⟩,
      ⟨(some 5), none, .mv (.t 39)⟩])))))
   (.ops [⟨(some 40), none, .bin .add (.t 10) (.c (.int .i64 1))⟩,
     ⟨(some 10), none, .mv (.t 40)⟩])))))))
 (.seq (.ops [⟨(some 41), none, .mv (.t 5)⟩,
   ⟨(some 4), none, .mv (.t 41)⟩])
 .ret))))⟩
def i34 : IFn := ⟨16, [.tmp 2],
 (.seq (.ops [⟨(some 2), none, .mv (.c .nils)⟩])
 (.seq (.seq (.ops [⟨(some 4), none, .mv (.t 0)⟩,
   ⟨(some 5), none, .len (.t 4)⟩,
   ⟨(some 6), none, .mv (.c (.int .i64 0))⟩])
 (.block 0 (.loop (.seq (.ops [⟨(some 7), none, .bin .lss (.t 6) (.t 5)⟩])
   (.seq (.cond (.t 7)
    .skip
    (.exit 0))
   (.seq (.block 1 (.seq (.ops [⟨(some 8), none, .mv (.t 6)⟩,
      ⟨(some 3), none, .mv (.t 8)⟩])
    (.ops [⟨(some 9), none, .mv (.t 0)⟩,
      ⟨(some 10), none, .mv (.t 3)⟩,
      ⟨(some 11), none, .mv (.t 3)⟩,
      ⟨(some 12), none, .idx 4 (.t 9) (.t 10)⟩,
      ⟨(some 13), none, .fld 3 (.t 12)⟩,
      ⟨none, none, .store 1 (.t 13) (.t 11)⟩])))
   (.ops [⟨(some 14), none, .bin .add (.t 6) (.c (.int .i64 1))⟩,
     ⟨(some 6), none, .mv (.t 14)⟩])))))))
 (.seq (.ops [⟨(some 15), none, .mv (.t 0)⟩,
   ⟨(some 2), none, .mv (.t 15)⟩])
 .ret)))⟩
def i37 : IFn := ⟨131, [.tmp 2],
 (.seq (.ops [⟨(some 1), none, .box 27 (.t 0)⟩,
   ⟨(some 2), none, .mv (.c .nils)⟩])
 (.seq (.ops [⟨(some 15), none, .build [.nils, .nils, (.str []), (.int .i64 0), .nils, (.int .i64 0), .nils, .nils, .nils, .nils, .nils, .nils, .nils, .nils] []⟩,
   ⟨(some 16), none, .box 119 (.t 15)⟩,
   ⟨(some 3), none, .alloc 115 [.nilp]⟩,
   ⟨none, none, .store 1 (.t 3) (.t 16)⟩])
 (.seq (.ops [⟨(some 4), none, .mv (.c .nils)⟩])
 (.seq (.ops [⟨(some 17), none, .mkf 66 [] [(.t 3)]⟩,
   ⟨(some 5), none, .mv (.t 17)⟩])
 (.seq (.ops [⟨(some 18), none, .mkf 70 [] [(.t 3)]⟩,
   ⟨(some 6), none, .mv (.t 18)⟩])
 (.seq (.seq (.ops [⟨(some 19), none, .fld 0 (.t 1)⟩,
   ⟨(some 20), none, .load1 (.t 19)⟩,
   ⟨(some 21), none, .len (.t 20)⟩,
   ⟨(some 22), none, .mv (.c (.int .i64 0))⟩])
 (.block 0 (.loop (.seq (.ops [⟨(some 23), none, .bin .lss (.t 22) (.t 21)⟩])
   (.seq (.cond (.t 23)
    .skip
    (.exit 0))
   (.seq (.block 1 (.seq (.ops [⟨(some 24), none, .idx 5 (.t 20) (.t 22)⟩,
      ⟨(some 25), none, .loadN 5 (.t 24)⟩,
      ⟨(some 8), none, .alloc 79 [(.str []), (.int .i64 0), (.int .i64 0), (.int .i64 0), (.int .i64 0)]⟩,
      ⟨none, none, .store 5 (.t 8) (.t 25)⟩])
    (.seq (.ops [⟨(some 26), none, .mv (.t 5)⟩,
      ⟨(some 27), none, .fld 4 (.t 8)⟩,
      ⟨(some 28), none, .load1 (.t 27)⟩,
      ⟨(some 29), none, .fld 0 (.t 8)⟩,
      ⟨(some 30), none, .load1 (.t 29)⟩,
      ⟨(some 31), none, .mv (.t 4)⟩,
      ⟨(some 32), none, .callv (.t 26) [(.t 28), (.t 30), (.t 31)]⟩])
    (.seq (.ops [⟨(some 33), none, .mv (.t 6)⟩,
      ⟨(some 34), none, .fld 4 (.t 8)⟩,
      ⟨(some 35), none, .load1 (.t 34)⟩,
      ⟨(some 36), none, .fld 2 (.t 8)⟩,
      ⟨(some 37), none, .load1 (.t 36)⟩,
      ⟨(some 38), none, .fld 0 (.t 8)⟩,
      ⟨(some 39), none, .load1 (.t 38)⟩,
      ⟨(some 40), none, .callv (.t 33) [(.t 35), (.t 37), (.t 39)]⟩])
    (.seq (.seq (.ops [⟨(some 41), none, .fld 2 (.t 8)⟩,
      ⟨(some 42), none, .load1 (.t 41)⟩,
      ⟨(some 43), none, .bin .eql (.t 42) (.c (.int .i64 0))⟩,
      ⟨(some 44), none, .mv (.t 43)⟩,
      ⟨(some 45), some (44, true), .fld 1 (.t 8)⟩,
      ⟨(some 46), some (44, true), .load1 (.t 45)⟩,
      ⟨(some 47), some (44, true), .fld 3 (.t 8)⟩,
      ⟨(some 48), some (44, true), .load1 (.t 47)⟩,
      ⟨(some 49), some (44, true), .callf 72 [(.t 46), (.t 48)]⟩,
      ⟨(some 50), some (44, true), .not (.t 49)⟩,
      ⟨(some 51), none, .pick (.t 44) (.t 50) (.c (.bool false))⟩,
      ⟨(some 52), none, .mv (.t 51)⟩,
      ⟨(some 53), some (52, false), .fld 2 (.t 8)⟩,
      ⟨(some 54), some (52, false), .load1 (.t 53)⟩,
      ⟨(some 55), some (52, false), .bin .neq (.t 54) (.c (.int .i64 0))⟩,
      ⟨(some 56), some (52, false), .mv (.t 55)⟩,
      ⟨(some 57), some (56, true), .fld 3 (.t 8)⟩,
      ⟨(some 58), some (56, true), .load1 (.t 57)⟩,
      ⟨(some 59), some (56, true), .bin .neq (.t 58) (.c (.int .i64 0))⟩,
      ⟨(some 60), some (52, false), .pick (.t 56) (.t 59) (.c (.bool false))⟩,
      ⟨(some 61), none, .pick (.t 52) (.c (.bool true)) (.t 60)⟩])
    (.cond (.t 61)
     (.ops [⟨(some 62), none, .load1 (.t 3)⟩,
       ⟨(some 63), none, .fld 4 (.t 8)⟩,
       ⟨(some 64), none, .load1 (.t 63)⟩,
       ⟨(some 65), none, .fld 0 (.t 8)⟩,
       ⟨(some 66), none, .load1 (.t 65)⟩,
       ⟨(some 67), none, .callf 69 [(.c (.str [103, 108, 111, 98, 97, 108])), (.t 64), (.c (.int .i64 5)), (.t 66)]⟩,
       ⟨none, none, .again 62 (.load1 (.t 3))⟩,
       ⟨(some 68), none, .callf 68 [(.t 62), (.t 67)]⟩])
     .skip))
    (.ops [⟨(some 69), none, .mv (.t 4)⟩,
      ⟨(some 70), none, .fld 0 (.t 8)⟩,
      ⟨(some 71), none, .load1 (.t 70)⟩,
      ⟨(some 72), none, .bslice 9 1 1 [(.str [])] [(0, 1, (.t 71))]⟩,
      ⟨(some 73), none, .append 9 1 16 (.t 69) (.t 72)⟩,
      ⟨(some 4), none, .mv (.t 73)⟩]))))))
   (.ops [⟨(some 74), none, .bin .add (.t 22) (.c (.int .i64 1))⟩,
     ⟨(some 22), none, .mv (.t 74)⟩])))))))
 (.seq (.ops [⟨(some 75), none, .mv (.t 4)⟩,
   ⟨(some 76), none, .callf 73 [(.t 75)]⟩,
   ⟨(some 9), none, .mv (.t 76)⟩])
 (.seq (.seq (.ops [⟨(some 77), none, .fld 1 (.t 1)⟩,
   ⟨(some 78), none, .load1 (.t 77)⟩,
   ⟨(some 79), none, .len (.t 78)⟩,
   ⟨(some 80), none, .mv (.c (.int .i64 0))⟩])
 (.block 2 (.loop (.seq (.ops [⟨(some 81), none, .bin .lss (.t 80) (.t 79)⟩])
   (.seq (.cond (.t 81)
    .skip
    (.exit 2))
   (.seq (.block 3 (.seq (.ops [⟨(some 82), none, .idx 8 (.t 78) (.t 80)⟩,
      ⟨(some 83), none, .loadN 8 (.t 82)⟩,
      ⟨(some 11), none, .alloc 40 [(.str []), (.int .i64 0), .nils, (.int .i64 0), .nils, .nils, .nils, .nils]⟩,
      ⟨none, none, .store 8 (.t 11) (.t 83)⟩])
    (.seq (.ops [⟨(some 84), none, .mv (.t 5)⟩,
      ⟨(some 85), none, .fld 1 (.t 11)⟩,
      ⟨(some 86), none, .load1 (.t 85)⟩,
      ⟨(some 87), none, .fld 0 (.t 11)⟩,
      ⟨(some 88), none, .load1 (.t 87)⟩,
      ⟨(some 89), none, .mv (.t 4)⟩,
      ⟨(some 90), none, .callv (.t 84) [(.t 86), (.t 88), (.t 89)]⟩])
    (.seq (.ops [⟨(some 91), none, .mv (.t 4)⟩,
      ⟨(some 92), none, .fld 0 (.t 11)⟩,
      ⟨(some 93), none, .load1 (.t 92)⟩,
      ⟨(some 94), none, .bslice 9 1 1 [(.str [])] [(0, 1, (.t 93))]⟩,
      ⟨(some 95), none, .append 9 1 16 (.t 91) (.t 94)⟩,
      ⟨(some 4), none, .mv (.t 95)⟩])
    (.seq (.ops [⟨(some 96), none, .mv (.t 9)⟩,
      ⟨(some 97), none, .callf 73 [(.t 96)]⟩,
      ⟨(some 12), none, .mv (.t 97)⟩])
    (.seq (.ops [⟨(some 98), none, .fld 2 (.t 11)⟩,
      ⟨(some 99), none, .load1 (.t 98)⟩,
      ⟨(some 100), none, .len (.t 99)⟩,
      ⟨(some 101), none, .mv (.c (.int .i64 0))⟩])
    (.block 4 (.loop (.seq (.ops [⟨(some 102), none, .bin .lss (.t 101) (.t 100)⟩])
      (.seq (.cond (.t 102)
       .skip
       (.exit 4))
      (.seq (.block 5 (.seq (.ops [⟨(some 103), none, .idx 4 (.t 99) (.t 101)⟩,
         ⟨(some 104), none, .loadN 4 (.t 103)⟩,
         ⟨(some 14), none, .alloc 77 [(.str []), (.int .i64 0), (.int .i64 0), (.int .i64 0)]⟩,
         ⟨none, none, .store 4 (.t 14) (.t 104)⟩])
       (.seq (.ops [⟨(some 105), none, .mv (.t 5)⟩,
         ⟨(some 106), none, .fld 3 (.t 14)⟩,
         ⟨(some 107), none, .load1 (.t 106)⟩,
         ⟨(some 108), none, .fld 0 (.t 14)⟩,
         ⟨(some 109), none, .load1 (.t 108)⟩,
         ⟨(some 110), none, .mv (.t 12)⟩,
         ⟨(some 111), none, .callv (.t 105) [(.t 107), (.t 109), (.t 110)]⟩])
       (.seq (.ops [⟨(some 112), none, .mv (.t 6)⟩,
         ⟨(some 113), none, .fld 3 (.t 14)⟩,
         ⟨(some 114), none, .load1 (.t 113)⟩,
         ⟨(some 115), none, .fld 2 (.t 14)⟩,
         ⟨(some 116), none, .load1 (.t 115)⟩,
         ⟨(some 117), none, .fld 0 (.t 14)⟩,
         ⟨(some 118), none, .load1 (.t 117)⟩,
         ⟨(some 119), none, .callv (.t 112) [(.t 114), (.t 116), (.t 118)]⟩])
       (.ops [⟨(some 120), none, .mv (.t 12)⟩,
         ⟨(some 121), none, .fld 0 (.t 14)⟩,
         ⟨(some 122), none, .load1 (.t 121)⟩,
         ⟨(some 123), none, .bslice 9 1 1 [(.str [])] [(0, 1, (.t 122))]⟩,
         ⟨(some 124), none, .append 9 1 16 (.t 120) (.t 123)⟩,
         ⟨(some 12), none, .mv (.t 124)⟩])))))
      (.ops [⟨(some 125), none, .bin .add (.t 101) (.c (.int .i64 1))⟩,
        ⟨(some 101), none, .mv (.t 125)⟩]))))))))))))
   (.ops [⟨(some 126), none, .bin .add (.t 80) (.c (.int .i64 1))⟩,
     ⟨(some 80), none, .mv (.t 126)⟩])))))))
 (.seq (.ops [⟨(some 127), none, .load1 (.t 3)⟩,
   ⟨(some 128), none, .nilchk (.t 127)⟩,
   ⟨(some 129), none, .fld 10 (.t 128)⟩,
   ⟨(some 130), none, .load1 (.t 129)⟩,
   ⟨(some 2), none, .mv (.t 130)⟩])
 .ret)))))))))⟩
def i38 : IFn := ⟨129, [.tmp 4],
 (.seq (.ops [⟨(some 2), none, .box 27 (.t 0)⟩,
   ⟨(some 3), none, .box 40 (.t 1)⟩,
   ⟨(some 4), none, .mv (.c .nils)⟩])
 (.seq (.ops [⟨(some 14), none, .loadN 2 (.t 2)⟩,
   ⟨(some 15), none, .loadN 8 (.t 3)⟩,
   ⟨(some 16), none, .build [.nils, .nils, (.str []), (.int .i64 0), .nils, (.int .i64 0), .nils, .nils, .nils, .nils, .nils, .nils, .nils, .nils] [(0, 2, (.t 14)), (2, 8, (.t 15))]⟩,
   ⟨(some 17), none, .box 119 (.t 16)⟩,
   ⟨(some 5), none, .mv (.t 17)⟩])
 (.seq (.seq (.ops [⟨(some 18), none, .fld 0 (.t 2)⟩,
   ⟨(some 19), none, .load1 (.t 18)⟩,
   ⟨(some 20), none, .len (.t 19)⟩,
   ⟨(some 21), none, .mv (.c (.int .i64 0))⟩])
 (.block 0 (.loop (.seq (.ops [⟨(some 22), none, .bin .lss (.t 21) (.t 20)⟩])
   (.seq (.cond (.t 22)
    .skip
    (.exit 0))
   (.seq (.block 1 (.seq (.ops [⟨(some 23), none, .idx 5 (.t 19) (.t 21)⟩,
      ⟨(some 24), none, .loadN 5 (.t 23)⟩,
      ⟨(some 7), none, .alloc 79 [(.str []), (.int .i64 0), (.int .i64 0), (.int .i64 0), (.int .i64 0)]⟩,
      ⟨none, none, .store 5 (.t 7) (.t 24)⟩])
    (.ops [⟨(some 25), none, .mv (.t 5)⟩,
      ⟨(some 26), none, .mv (.t 5)⟩,
      ⟨(some 27), none, .nilchk (.t 26)⟩,
      ⟨(some 28), none, .fld 11 (.t 27)⟩,
      ⟨(some 29), none, .load1 (.t 28)⟩,
      ⟨(some 30), none, .fld 0 (.t 7)⟩,
      ⟨(some 31), none, .load1 (.t 30)⟩,
      ⟨(some 32), none, .fld 1 (.t 7)⟩,
      ⟨(some 33), none, .load1 (.t 32)⟩,
      ⟨(some 34), none, .fld 2 (.t 7)⟩,
      ⟨(some 35), none, .load1 (.t 34)⟩,
      ⟨(some 36), none, .build [(.str []), (.int .i64 0), (.int .i64 0), (.bool false), (.bool false), (.int .i64 0)] [(0, 1, (.t 31)), (1, 1, (.t 33)), (2, 1, (.t 35)), (3, 1, (.c (.bool true)))]⟩,
      ⟨(some 37), none, .bslice 130 6 1 [(.str []), (.int .i64 0), (.int .i64 0), (.bool false), (.bool false), (.int .i64 0)] [(0, 6, (.t 36))]⟩,
      ⟨(some 38), none, .append 130 6 48 (.t 29) (.t 37)⟩,
      ⟨(some 39), none, .nilchk (.t 25)⟩,
      ⟨(some 40), none, .fld 11 (.t 39)⟩,
      ⟨none, none, .store 1 (.t 40) (.t 38)⟩])))
   (.ops [⟨(some 41), none, .bin .add (.t 21) (.c (.int .i64 1))⟩,
     ⟨(some 21), none, .mv (.t 41)⟩])))))))
 (.seq (.seq (.ops [⟨(some 42), none, .fld 2 (.t 3)⟩,
   ⟨(some 43), none, .load1 (.t 42)⟩,
   ⟨(some 44), none, .len (.t 43)⟩,
   ⟨(some 45), none, .mv (.c (.int .i64 0))⟩])
 (.block 2 (.loop (.seq (.ops [⟨(some 46), none, .bin .lss (.t 45) (.t 44)⟩])
   (.seq (.cond (.t 46)
    .skip
    (.exit 2))
   (.seq (.block 3 (.seq (.ops [⟨(some 47), none, .idx 4 (.t 43) (.t 45)⟩,
      ⟨(some 48), none, .loadN 4 (.t 47)⟩,
      ⟨(some 9), none, .alloc 77 [(.str []), (.int .i64 0), (.int .i64 0), (.int .i64 0)]⟩,
      ⟨none, none, .store 4 (.t 9) (.t 48)⟩])
    (.ops [⟨(some 49), none, .mv (.t 5)⟩,
      ⟨(some 50), none, .mv (.t 5)⟩,
      ⟨(some 51), none, .nilchk (.t 50)⟩,
      ⟨(some 52), none, .fld 11 (.t 51)⟩,
      ⟨(some 53), none, .load1 (.t 52)⟩,
      ⟨(some 54), none, .fld 0 (.t 9)⟩,
      ⟨(some 55), none, .load1 (.t 54)⟩,
      ⟨(some 56), none, .fld 1 (.t 9)⟩,
      ⟨(some 57), none, .load1 (.t 56)⟩,
      ⟨(some 58), none, .fld 2 (.t 9)⟩,
      ⟨(some 59), none, .load1 (.t 58)⟩,
      ⟨(some 60), none, .build [(.str []), (.int .i64 0), (.int .i64 0), (.bool false), (.bool false), (.int .i64 0)] [(0, 1, (.t 55)), (1, 1, (.t 57)), (2, 1, (.t 59)), (4, 1, (.c (.bool true)))]⟩,
      ⟨(some 61), none, .bslice 130 6 1 [(.str []), (.int .i64 0), (.int .i64 0), (.bool false), (.bool false), (.int .i64 0)] [(0, 6, (.t 60))]⟩,
      ⟨(some 62), none, .append 130 6 48 (.t 53) (.t 61)⟩,
      ⟨(some 63), none, .nilchk (.t 49)⟩,
      ⟨(some 64), none, .fld 11 (.t 63)⟩,
      ⟨none, none, .store 1 (.t 64) (.t 62)⟩])))
   (.ops [⟨(some 65), none, .bin .add (.t 45) (.c (.int .i64 1))⟩,
     ⟨(some 45), none, .mv (.t 65)⟩])))))))
 (.seq (.ops [⟨(some 66), none, .mv (.t 5)⟩,
   ⟨(some 67), none, .fld 4 (.t 3)⟩,
   ⟨(some 68), none, .load1 (.t 67)⟩,
   ⟨(some 69), none, .build [(.bool false), (.bool false), (.bool false)] [(0, 1, (.c (.bool true)))]⟩,
   ⟨(some 70), none, .callf 74 [(.t 66), (.t 68), (.t 69)]⟩])
 (.seq (.ops [⟨(some 71), none, .mv (.t 5)⟩,
   ⟨(some 72), none, .fld 5 (.t 3)⟩,
   ⟨(some 73), none, .load1 (.t 72)⟩,
   ⟨(some 74), none, .build [(.bool false), (.bool false), (.bool false)] [(0, 1, (.c (.bool true))), (1, 1, (.c (.bool true)))]⟩,
   ⟨(some 75), none, .callf 74 [(.t 71), (.t 73), (.t 74)]⟩])
 (.seq (.seq (.ops [⟨(some 76), none, .fld 6 (.t 3)⟩,
   ⟨(some 77), none, .load1 (.t 76)⟩,
   ⟨(some 78), none, .len (.t 77)⟩,
   ⟨(some 79), none, .mv (.c (.int .i64 0))⟩])
 (.block 4 (.loop (.seq (.ops [⟨(some 80), none, .bin .lss (.t 79) (.t 78)⟩])
   (.seq (.cond (.t 80)
    .skip
    (.exit 4))
   (.seq (.block 5 (.seq (.ops [⟨(some 81), none, .idx 1 (.t 77) (.t 79)⟩,
      ⟨(some 82), none, .load1 (.t 81)⟩,
      ⟨(some 11), none, .mv (.t 82)⟩])
    (.seq (.ops [⟨(some 84), none, .mv (.t 5)⟩,
      ⟨(some 85), none, .mv (.t 11)⟩,
      ⟨(some 86), none, .callf 75 [(.t 84), (.t 85)]⟩,
      ⟨(some 83), none, .mv (.t 86)⟩,
      ⟨(some 87), none, .ext 0 (.t 83)⟩,
      ⟨(some 88), none, .ext 1 (.t 83)⟩,
      ⟨(some 12), none, .alloc 130 [(.str []), (.int .i64 0), (.int .i64 0), (.bool false), (.bool false), (.int .i64 0)]⟩,
      ⟨none, none, .store 6 (.t 12) (.t 87)⟩,
      ⟨(some 13), none, .mv (.t 88)⟩])
    (.seq (.ops [⟨(some 89), none, .mv (.t 13)⟩,
      ⟨(some 90), none, .not (.t 89)⟩,
      ⟨(some 91), none, .mv (.t 90)⟩,
      ⟨(some 92), some (91, false), .fld 3 (.t 12)⟩,
      ⟨(some 93), some (91, false), .load1 (.t 92)⟩,
      ⟨(some 94), some (91, false), .not (.t 93)⟩,
      ⟨(some 95), some (91, false), .mv (.t 94)⟩,
      ⟨(some 96), some (95, true), .fld 2 (.t 12)⟩,
      ⟨(some 97), some (95, true), .load1 (.t 96)⟩,
      ⟨(some 98), some (95, true), .bin .eql (.t 97) (.c (.int .i64 0))⟩,
      ⟨(some 99), some (91, false), .pick (.t 95) (.t 98) (.c (.bool false))⟩,
      ⟨(some 100), none, .pick (.t 91) (.c (.bool true)) (.t 99)⟩])
    (.cond (.t 100)
     (.ops [⟨(some 101), none, .mv (.t 5)⟩,
       ⟨(some 102), none, .fld 1 (.t 3)⟩,
       ⟨(some 103), none, .load1 (.t 102)⟩,
       ⟨(some 104), none, .mv (.t 11)⟩,
       ⟨(some 105), none, .callf 69 [(.c (.str [97, 115, 115, 105, 103, 110, 115])), (.t 103), (.c (.int .i64 2)), (.t 104)]⟩,
       ⟨(some 106), none, .callf 68 [(.t 101), (.t 105)]⟩])
     .skip)))))
   (.ops [⟨(some 107), none, .bin .add (.t 79) (.c (.int .i64 1))⟩,
     ⟨(some 79), none, .mv (.t 107)⟩])))))))
 (.seq (.ops [⟨(some 108), none, .mv (.t 5)⟩,
   ⟨(some 109), none, .fld 7 (.t 3)⟩,
   ⟨(some 110), none, .load1 (.t 109)⟩,
   ⟨(some 111), none, .callf 76 [(.t 108), (.t 110)]⟩])
 (.seq (.seq (.ops [⟨(some 112), none, .loadN 2 (.t 2)⟩,
   ⟨(some 113), none, .loadN 8 (.t 3)⟩,
   ⟨(some 114), none, .callf 12 [(.t 112), (.t 113)]⟩,
   ⟨(some 115), none, .fldv 0 none (.t 114)⟩,
   ⟨(some 116), none, .len (.t 115)⟩,
   ⟨(some 117), none, .bin .gtr (.t 116) (.c (.int .i64 20))⟩])
 (.cond (.t 117)
  (.ops [⟨(some 118), none, .mv (.t 5)⟩,
    ⟨(some 119), none, .fld 1 (.t 3)⟩,
    ⟨(some 120), none, .load1 (.t 119)⟩,
    ⟨(some 121), none, .fld 0 (.t 3)⟩,
    ⟨(some 122), none, .load1 (.t 121)⟩,
    ⟨(some 123), none, .callf 69 [(.c (.str [108, 97, 121, 111, 117, 116])), (.t 120), (.c (.int .i64 11)), (.t 122)]⟩,
    ⟨(some 124), none, .callf 68 [(.t 118), (.t 123)]⟩])
  .skip))
 (.seq (.ops [⟨(some 125), none, .mv (.t 5)⟩,
   ⟨(some 126), none, .nilchk (.t 125)⟩,
   ⟨(some 127), none, .fld 10 (.t 126)⟩,
   ⟨(some 128), none, .load1 (.t 127)⟩,
   ⟨(some 4), none, .mv (.t 128)⟩])
 .ret))))))))))⟩
def i50 : IFn := ⟨9, [.tmp 2],
 (.seq (.ops [⟨(some 2), none, .mv (.c (.bool false))⟩])
 (.seq (.ops [⟨(some 3), none, .mv (.t 0)⟩,
   ⟨(some 4), none, .bin .geq (.t 3) (.c (.int .u8 97))⟩,
   ⟨(some 5), none, .mv (.t 4)⟩,
   ⟨(some 6), some (5, true), .mv (.t 0)⟩,
   ⟨(some 7), some (5, true), .bin .leq (.t 6) (.c (.int .u8 122))⟩,
   ⟨(some 8), none, .pick (.t 5) (.t 7) (.c (.bool false))⟩,
   ⟨(some 2), none, .mv (.t 8)⟩])
 .ret))⟩
def i51 : IFn := ⟨9, [.tmp 2],
 (.seq (.ops [⟨(some 2), none, .mv (.c (.bool false))⟩])
 (.seq (.ops [⟨(some 3), none, .mv (.t 0)⟩,
   ⟨(some 4), none, .bin .geq (.t 3) (.c (.int .u8 48))⟩,
   ⟨(some 5), none, .mv (.t 4)⟩,
   ⟨(some 6), some (5, true), .mv (.t 0)⟩,
   ⟨(some 7), some (5, true), .bin .leq (.t 6) (.c (.int .u8 57))⟩,
   ⟨(some 8), none, .pick (.t 5) (.t 7) (.c (.bool false))⟩,
   ⟨(some 2), none, .mv (.t 8)⟩])
 .ret))⟩
def i52 : IFn := ⟨30, [.tmp 2],
 (.seq (.ops [⟨(some 2), none, .mv (.c (.bool false))⟩])
 (.seq (.seq (.ops [⟨(some 3), none, .mv (.t 0)⟩])
 (.block 0 (.seq (.seq (.ops [⟨(some 5), none, .bin .eql (.t 3) (.c (.str [103, 108, 111, 98, 97, 108]))⟩,
    ⟨(some 4), none, .mv (.t 5)⟩])
  (.cond (.t 4)
   .skip
   (.seq (.ops [⟨(some 6), none, .bin .eql (.t 3) (.c (.str [102, 110]))⟩,
     ⟨(some 4), none, .mv (.t 6)⟩])
   (.cond (.t 4)
    .skip
    (.seq (.ops [⟨(some 7), none, .bin .eql (.t 3) (.c (.str [114, 101, 113, 117, 105, 114, 101, 115]))⟩,
      ⟨(some 4), none, .mv (.t 7)⟩])
    (.cond (.t 4)
     .skip
     (.seq (.ops [⟨(some 8), none, .bin .eql (.t 3) (.c (.str [101, 110, 115, 117, 114, 101, 115]))⟩,
       ⟨(some 4), none, .mv (.t 8)⟩])
     (.cond (.t 4)
      .skip
      (.seq (.ops [⟨(some 9), none, .bin .eql (.t 3) (.c (.str [97, 115, 115, 105, 103, 110, 115]))⟩,
        ⟨(some 4), none, .mv (.t 9)⟩])
      (.cond (.t 4)
       .skip
       (.seq (.ops [⟨(some 10), none, .bin .eql (.t 3) (.c (.str [110, 111, 116, 104, 105, 110, 103]))⟩,
         ⟨(some 4), none, .mv (.t 10)⟩])
       (.cond (.t 4)
        .skip
        (.seq (.ops [⟨(some 11), none, .bin .eql (.t 3) (.c (.str [108, 101, 116]))⟩,
          ⟨(some 4), none, .mv (.t 11)⟩])
        (.cond (.t 4)
         .skip
         (.seq (.ops [⟨(some 12), none, .bin .eql (.t 3) (.c (.str [99, 97, 108, 108]))⟩,
           ⟨(some 4), none, .mv (.t 12)⟩])
         (.cond (.t 4)
          .skip
          (.seq (.ops [⟨(some 13), none, .bin .eql (.t 3) (.c (.str [105, 102]))⟩,
            ⟨(some 4), none, .mv (.t 13)⟩])
          (.cond (.t 4)
           .skip
           (.seq (.ops [⟨(some 14), none, .bin .eql (.t 3) (.c (.str [101, 108, 115, 101]))⟩,
             ⟨(some 4), none, .mv (.t 14)⟩])
           (.cond (.t 4)
            .skip
            (.seq (.ops [⟨(some 15), none, .bin .eql (.t 3) (.c (.str [119, 104, 105, 108, 101]))⟩,
              ⟨(some 4), none, .mv (.t 15)⟩])
            (.cond (.t 4)
             .skip
             (.seq (.ops [⟨(some 16), none, .bin .eql (.t 3) (.c (.str [105, 110, 118, 97, 114, 105, 97, 110, 116]))⟩,
               ⟨(some 4), none, .mv (.t 16)⟩])
             (.cond (.t 4)
              .skip
              (.seq (.ops [⟨(some 17), none, .bin .eql (.t 3) (.c (.str [98, 114, 101, 97, 107]))⟩,
                ⟨(some 4), none, .mv (.t 17)⟩])
              (.cond (.t 4)
               .skip
               (.seq (.ops [⟨(some 18), none, .bin .eql (.t 3) (.c (.str [99, 111, 110, 116, 105, 110, 117, 101]))⟩,
                 ⟨(some 4), none, .mv (.t 18)⟩])
               (.cond (.t 4)
                .skip
                (.seq (.ops [⟨(some 19), none, .bin .eql (.t 3) (.c (.str [114, 101, 116, 117, 114, 110]))⟩,
                  ⟨(some 4), none, .mv (.t 19)⟩])
                (.cond (.t 4)
                 .skip
                 (.seq (.ops [⟨(some 20), none, .bin .eql (.t 3) (.c (.str [97, 115, 115, 101, 114, 116]))⟩,
                   ⟨(some 4), none, .mv (.t 20)⟩])
                 (.cond (.t 4)
                  .skip
                  (.seq (.ops [⟨(some 21), none, .bin .eql (.t 3) (.c (.str [105, 110, 112, 117, 116]))⟩,
                    ⟨(some 4), none, .mv (.t 21)⟩])
                  (.cond (.t 4)
                   .skip
                   (.seq (.ops [⟨(some 22), none, .bin .eql (.t 3) (.c (.str [111, 108, 100]))⟩,
                     ⟨(some 4), none, .mv (.t 22)⟩])
                   (.cond (.t 4)
                    .skip
                    (.seq (.ops [⟨(some 23), none, .bin .eql (.t 3) (.c (.str [114, 101, 115, 117, 108, 116]))⟩,
                      ⟨(some 4), none, .mv (.t 23)⟩])
                    (.cond (.t 4)
                     .skip
                     (.seq (.ops [⟨(some 24), none, .bin .eql (.t 3) (.c (.str [110, 111, 116]))⟩,
                       ⟨(some 4), none, .mv (.t 24)⟩])
                     (.cond (.t 4)
                      .skip
                      (.seq (.ops [⟨(some 25), none, .bin .eql (.t 3) (.c (.str [97, 110, 100]))⟩,
                        ⟨(some 4), none, .mv (.t 25)⟩])
                      (.cond (.t 4)
                       .skip
                       (.ops [⟨(some 26), none, .bin .eql (.t 3) (.c (.str [111, 114]))⟩,
                         ⟨(some 4), none, .mv (.t 26)⟩])))))))))))))))))))))))))))))))))))))))))))
  (.cond (.t 4)
   (.seq (.ops [⟨(some 2), none, .mv (.c (.bool true))⟩])
   .ret)
   .skip))))
 (.seq (.ops [⟨(some 27), none, .mv (.t 0)⟩,
   ⟨(some 28), none, .callf 90 [(.t 27)]⟩,
   ⟨(some 29), none, .bin .gtr (.t 28) (.c (.int .i64 0))⟩,
   ⟨(some 2), none, .mv (.t 29)⟩])
 .ret)))⟩
def i53 : IFn := ⟨99, [.tmp 4, .tmp 5],
 (.seq (.ops [⟨(some 4), none, .mv (.c (.int .i64 0))⟩,
   ⟨(some 5), none, .mv (.c (.int .i64 0))⟩])
 (.seq (.ops [⟨(some 12), none, .mv (.t 1)⟩,
   ⟨(some 6), none, .mv (.t 12)⟩])
 (.seq (.block 0 (.loop (.seq (.seq (.ops [⟨(some 13), none, .mv (.t 6)⟩,
     ⟨(some 14), none, .mv (.t 0)⟩,
     ⟨(some 15), none, .slen (.t 14)⟩,
     ⟨(some 16), none, .bin .lss (.t 13) (.t 15)⟩,
     ⟨(some 17), none, .mv (.t 16)⟩,
     ⟨(some 18), some (17, true), .mv (.t 0)⟩,
     ⟨(some 19), some (17, true), .mv (.t 6)⟩,
     ⟨(some 20), some (17, true), .sidx (.t 18) (.t 19)⟩,
     ⟨(some 21), some (17, true), .callf 51 [(.t 20)]⟩,
     ⟨(some 22), none, .pick (.t 17) (.t 21) (.c (.bool false))⟩])
   (.cond (.t 22)
    .skip
    (.exit 0)))
   (.block 1 (.ops [⟨(some 23), none, .mv (.t 6)⟩,
      ⟨(some 24), none, .bin .add (.t 23) (.c (.int .i64 1))⟩,
      ⟨(some 6), none, .mv (.t 24)⟩])))))
 (.seq (.ops [⟨(some 25), none, .mv (.t 6)⟩,
   ⟨(some 26), none, .mv (.t 1)⟩,
   ⟨(some 27), none, .bin .sub (.t 25) (.t 26)⟩,
   ⟨(some 28), none, .bin .gtr (.t 27) (.c (.int .i64 10))⟩,
   ⟨(some 7), none, .mv (.t 28)⟩])
 (.seq (.ops [⟨(some 29), none, .mv (.t 6)⟩,
   ⟨(some 30), none, .mv (.t 1)⟩,
   ⟨(some 31), none, .bin .sub (.t 29) (.t 30)⟩,
   ⟨(some 32), none, .bin .gtr (.t 31) (.c (.int .i64 1))⟩,
   ⟨(some 33), none, .mv (.t 32)⟩,
   ⟨(some 34), some (33, true), .mv (.t 0)⟩,
   ⟨(some 35), some (33, true), .mv (.t 1)⟩,
   ⟨(some 36), some (33, true), .sidx (.t 34) (.t 35)⟩,
   ⟨(some 37), some (33, true), .bin .eql (.t 36) (.c (.int .u8 48))⟩,
   ⟨(some 38), none, .pick (.t 33) (.t 37) (.c (.bool false))⟩,
   ⟨(some 8), none, .mv (.t 38)⟩])
 (.seq (.seq (.ops [⟨(some 39), none, .mv (.t 6)⟩,
   ⟨(some 40), none, .mv (.t 0)⟩,
   ⟨(some 41), none, .slen (.t 40)⟩,
   ⟨(some 42), none, .bin .lss (.t 39) (.t 41)⟩,
   ⟨(some 43), none, .mv (.t 42)⟩,
   ⟨(some 44), some (43, true), .mv (.t 0)⟩,
   ⟨(some 45), some (43, true), .mv (.t 6)⟩,
   ⟨(some 46), some (43, true), .sidx (.t 44) (.t 45)⟩,
   ⟨(some 47), some (43, true), .bin .eql (.t 46) (.c (.int .u8 117))⟩,
   ⟨(some 48), none, .pick (.t 43) (.t 47) (.c (.bool false))⟩])
 (.cond (.t 48)
  (.ops [⟨(some 49), none, .mv (.t 6)⟩,
    ⟨(some 50), none, .bin .add (.t 49) (.c (.int .i64 1))⟩,
    ⟨(some 6), none, .mv (.t 50)⟩])
  .skip))
 (.seq (.seq (.ops [⟨(some 51), none, .mv (.t 7)⟩,
   ⟨(some 52), none, .not (.t 51)⟩,
   ⟨(some 53), none, .mv (.t 52)⟩,
   ⟨(some 54), some (53, true), .mv (.t 8)⟩,
   ⟨(some 55), some (53, true), .not (.t 54)⟩,
   ⟨(some 56), none, .pick (.t 53) (.t 55) (.c (.bool false))⟩])
 (.cond (.t 56)
  (.seq (.ops [⟨(some 58), none, .mv (.t 0)⟩,
    ⟨(some 59), none, .mv (.t 1)⟩,
    ⟨(some 60), none, .mv (.t 6)⟩,
    ⟨(some 61), none, .sslice (.t 58) (some (.t 59)) (some (.t 60))⟩,
    ⟨(some 62), none, .callf 91 [(.t 61)]⟩,
    ⟨(some 57), none, .mv (.t 62)⟩,
    ⟨(some 63), none, .ext 0 (.t 57)⟩,
    ⟨(some 64), none, .ext 1 (.t 57)⟩,
    ⟨(some 65), none, .ext 2 (.t 57)⟩,
    ⟨(some 9), none, .mv (.t 63)⟩,
    ⟨(some 10), none, .mv (.t 64)⟩,
    ⟨(some 11), none, .mv (.t 65)⟩])
  (.ops [⟨(some 66), none, .mv (.t 11)⟩,
    ⟨(some 67), none, .not (.t 66)⟩,
    ⟨(some 7), none, .mv (.t 67)⟩]))
  .skip))
 (.seq (.block 2 (.seq (.ops [⟨(some 69), none, .mv (.t 7)⟩,
    ⟨(some 68), none, .mv (.t 69)⟩])
  (.cond (.t 68)
   (.seq (.ops [⟨(some 70), none, .mv (.t 6)⟩,
     ⟨(some 4), none, .mv (.t 70)⟩,
     ⟨(some 5), none, .mv (.c (.int .i64 3))⟩])
   .ret)
   (.seq (.ops [⟨(some 72), none, .mv (.t 8)⟩,
     ⟨(some 73), none, .mv (.t 72)⟩,
     ⟨(some 74), some (73, false), .mv (.t 6)⟩,
     ⟨(some 75), some (73, false), .mv (.t 0)⟩,
     ⟨(some 76), some (73, false), .slen (.t 75)⟩,
     ⟨(some 77), some (73, false), .bin .lss (.t 74) (.t 76)⟩,
     ⟨(some 78), some (73, false), .mv (.t 77)⟩,
     ⟨(some 79), some (78, true), .mv (.t 0)⟩,
     ⟨(some 80), some (78, true), .mv (.t 6)⟩,
     ⟨(some 81), some (78, true), .sidx (.t 79) (.t 80)⟩,
     ⟨(some 82), some (78, true), .callf 50 [(.t 81)]⟩,
     ⟨(some 83), some (78, true), .mv (.t 82)⟩,
     ⟨(some 84), some (83, false), .mv (.t 0)⟩,
     ⟨(some 85), some (83, false), .mv (.t 6)⟩,
     ⟨(some 86), some (83, false), .sidx (.t 84) (.t 85)⟩,
     ⟨(some 87), some (83, false), .callf 51 [(.t 86)]⟩,
     ⟨(some 88), some (78, true), .pick (.t 83) (.c (.bool true)) (.t 87)⟩,
     ⟨(some 89), some (78, true), .mv (.t 88)⟩,
     ⟨(some 90), some (89, false), .mv (.t 0)⟩,
     ⟨(some 91), some (89, false), .mv (.t 6)⟩,
     ⟨(some 92), some (89, false), .sidx (.t 90) (.t 91)⟩,
     ⟨(some 93), some (89, false), .bin .eql (.t 92) (.c (.int .u8 95))⟩,
     ⟨(some 94), some (78, true), .pick (.t 89) (.c (.bool true)) (.t 93)⟩,
     ⟨(some 95), some (73, false), .pick (.t 78) (.t 94) (.c (.bool false))⟩,
     ⟨(some 96), none, .pick (.t 73) (.c (.bool true)) (.t 95)⟩,
     ⟨(some 71), none, .mv (.t 96)⟩])
   (.cond (.t 71)
    (.seq (.ops [⟨(some 97), none, .mv (.t 6)⟩,
      ⟨(some 4), none, .mv (.t 97)⟩,
      ⟨(some 5), none, .mv (.c (.int .i64 4))⟩])
    .ret)
    .skip)))))
 (.seq (.ops [⟨(some 98), none, .mv (.t 6)⟩,
   ⟨(some 4), none, .mv (.t 98)⟩,
   ⟨(some 5), none, .mv (.c (.int .i64 0))⟩])
 .ret)))))))))⟩
def i54 : IFn := ⟨57, [.tmp 4],
 (.seq (.ops [⟨(some 4), none, .mv (.c (.str []))⟩])
 (.seq (.seq (.ops [⟨(some 5), none, .mv (.t 1)⟩,
   ⟨(some 6), none, .bin .add (.t 5) (.c (.int .i64 1))⟩,
   ⟨(some 7), none, .mv (.t 0)⟩,
   ⟨(some 8), none, .slen (.t 7)⟩,
   ⟨(some 9), none, .bin .lss (.t 6) (.t 8)⟩])
 (.cond (.t 9)
  (.seq (.ops [⟨(some 10), none, .mv (.t 0)⟩,
    ⟨(some 11), none, .mv (.t 1)⟩,
    ⟨(some 12), none, .mv (.t 1)⟩,
    ⟨(some 13), none, .bin .add (.t 12) (.c (.int .i64 2))⟩,
    ⟨(some 14), none, .sslice (.t 10) (some (.t 11)) (some (.t 13))⟩])
  (.block 0 (.seq (.seq (.ops [⟨(some 16), none, .bin .eql (.t 14) (.c (.str [61, 61]))⟩,
     ⟨(some 15), none, .mv (.t 16)⟩])
   (.cond (.t 15)
    .skip
    (.seq (.ops [⟨(some 17), none, .bin .eql (.t 14) (.c (.str [33, 61]))⟩,
      ⟨(some 15), none, .mv (.t 17)⟩])
    (.cond (.t 15)
     .skip
     (.seq (.ops [⟨(some 18), none, .bin .eql (.t 14) (.c (.str [60, 61]))⟩,
       ⟨(some 15), none, .mv (.t 18)⟩])
     (.cond (.t 15)
      .skip
      (.seq (.ops [⟨(some 19), none, .bin .eql (.t 14) (.c (.str [62, 61]))⟩,
        ⟨(some 15), none, .mv (.t 19)⟩])
      (.cond (.t 15)
       .skip
       (.seq (.ops [⟨(some 20), none, .bin .eql (.t 14) (.c (.str [60, 60]))⟩,
         ⟨(some 15), none, .mv (.t 20)⟩])
       (.cond (.t 15)
        .skip
        (.ops [⟨(some 21), none, .bin .eql (.t 14) (.c (.str [62, 62]))⟩,
          ⟨(some 15), none, .mv (.t 21)⟩])))))))))))
   (.cond (.t 15)
    (.seq (.ops [⟨(some 22), none, .mv (.t 0)⟩,
      ⟨(some 23), none, .mv (.t 1)⟩,
      ⟨(some 24), none, .mv (.t 1)⟩,
      ⟨(some 25), none, .bin .add (.t 24) (.c (.int .i64 2))⟩,
      ⟨(some 26), none, .sslice (.t 22) (some (.t 23)) (some (.t 25))⟩,
      ⟨(some 4), none, .mv (.t 26)⟩])
    .ret)
    .skip))))
  .skip))
 (.seq (.seq (.ops [⟨(some 27), none, .mv (.t 0)⟩,
   ⟨(some 28), none, .mv (.t 1)⟩,
   ⟨(some 29), none, .sidx (.t 27) (.t 28)⟩])
 (.block 1 (.seq (.seq (.ops [⟨(some 31), none, .bin .eql (.t 29) (.c (.int .u8 40))⟩,
    ⟨(some 30), none, .mv (.t 31)⟩])
  (.cond (.t 30)
   .skip
   (.seq (.ops [⟨(some 32), none, .bin .eql (.t 29) (.c (.int .u8 41))⟩,
     ⟨(some 30), none, .mv (.t 32)⟩])
   (.cond (.t 30)
    .skip
    (.seq (.ops [⟨(some 33), none, .bin .eql (.t 29) (.c (.int .u8 123))⟩,
      ⟨(some 30), none, .mv (.t 33)⟩])
    (.cond (.t 30)
     .skip
     (.seq (.ops [⟨(some 34), none, .bin .eql (.t 29) (.c (.int .u8 125))⟩,
       ⟨(some 30), none, .mv (.t 34)⟩])
     (.cond (.t 30)
      .skip
      (.seq (.ops [⟨(some 35), none, .bin .eql (.t 29) (.c (.int .u8 91))⟩,
        ⟨(some 30), none, .mv (.t 35)⟩])
      (.cond (.t 30)
       .skip
       (.seq (.ops [⟨(some 36), none, .bin .eql (.t 29) (.c (.int .u8 93))⟩,
         ⟨(some 30), none, .mv (.t 36)⟩])
       (.cond (.t 30)
        .skip
        (.seq (.ops [⟨(some 37), none, .bin .eql (.t 29) (.c (.int .u8 44))⟩,
          ⟨(some 30), none, .mv (.t 37)⟩])
        (.cond (.t 30)
         .skip
         (.seq (.ops [⟨(some 38), none, .bin .eql (.t 29) (.c (.int .u8 59))⟩,
           ⟨(some 30), none, .mv (.t 38)⟩])
         (.cond (.t 30)
          .skip
          (.seq (.ops [⟨(some 39), none, .bin .eql (.t 29) (.c (.int .u8 58))⟩,
            ⟨(some 30), none, .mv (.t 39)⟩])
          (.cond (.t 30)
           .skip
           (.seq (.ops [⟨(some 40), none, .bin .eql (.t 29) (.c (.int .u8 61))⟩,
             ⟨(some 30), none, .mv (.t 40)⟩])
           (.cond (.t 30)
            .skip
            (.seq (.ops [⟨(some 41), none, .bin .eql (.t 29) (.c (.int .u8 60))⟩,
              ⟨(some 30), none, .mv (.t 41)⟩])
            (.cond (.t 30)
             .skip
             (.seq (.ops [⟨(some 42), none, .bin .eql (.t 29) (.c (.int .u8 62))⟩,
               ⟨(some 30), none, .mv (.t 42)⟩])
             (.cond (.t 30)
              .skip
              (.seq (.ops [⟨(some 43), none, .bin .eql (.t 29) (.c (.int .u8 43))⟩,
                ⟨(some 30), none, .mv (.t 43)⟩])
              (.cond (.t 30)
               .skip
               (.seq (.ops [⟨(some 44), none, .bin .eql (.t 29) (.c (.int .u8 45))⟩,
                 ⟨(some 30), none, .mv (.t 44)⟩])
               (.cond (.t 30)
                .skip
                (.seq (.ops [⟨(some 45), none, .bin .eql (.t 29) (.c (.int .u8 42))⟩,
                  ⟨(some 30), none, .mv (.t 45)⟩])
                (.cond (.t 30)
                 .skip
                 (.seq (.ops [⟨(some 46), none, .bin .eql (.t 29) (.c (.int .u8 47))⟩,
                   ⟨(some 30), none, .mv (.t 46)⟩])
                 (.cond (.t 30)
                  .skip
                  (.seq (.ops [⟨(some 47), none, .bin .eql (.t 29) (.c (.int .u8 37))⟩,
                    ⟨(some 30), none, .mv (.t 47)⟩])
                  (.cond (.t 30)
                   .skip
                   (.seq (.ops [⟨(some 48), none, .bin .eql (.t 29) (.c (.int .u8 38))⟩,
                     ⟨(some 30), none, .mv (.t 48)⟩])
                   (.cond (.t 30)
                    .skip
                    (.seq (.ops [⟨(some 49), none, .bin .eql (.t 29) (.c (.int .u8 124))⟩,
                      ⟨(some 30), none, .mv (.t 49)⟩])
                    (.cond (.t 30)
                     .skip
                     (.seq (.ops [⟨(some 50), none, .bin .eql (.t 29) (.c (.int .u8 94))⟩,
                       ⟨(some 30), none, .mv (.t 50)⟩])
                     (.cond (.t 30)
                      .skip
                      (.ops [⟨(some 51), none, .bin .eql (.t 29) (.c (.int .u8 126))⟩,
                        ⟨(some 30), none, .mv (.t 51)⟩])))))))))))))))))))))))))))))))))))))))))
  (.cond (.t 30)
   (.seq (.ops [⟨(some 52), none, .mv (.t 0)⟩,
     ⟨(some 53), none, .mv (.t 1)⟩,
     ⟨(some 54), none, .mv (.t 1)⟩,
     ⟨(some 55), none, .bin .add (.t 54) (.c (.int .i64 1))⟩,
     ⟨(some 56), none, .sslice (.t 52) (some (.t 53)) (some (.t 55))⟩,
     ⟨(some 4), none, .mv (.t 56)⟩])
   .ret)
   .skip))))
 (.seq (.ops [⟨(some 4), none, .mv (.c (.str []))⟩])
 .ret))))⟩
def i55 : IFn := ⟨16, [.tmp 4],
 (.seq (.ops [⟨(some 4), none, .mv (.c (.bool false))⟩])
 (.seq (.seq (.ops [⟨(some 5), none, .mv (.t 0)⟩,
   ⟨(some 6), none, .mv (.t 1)⟩,
   ⟨(some 7), none, .callf 92 [(.t 5), (.t 6)]⟩,
   ⟨(some 8), none, .not (.t 7)⟩])
 (.cond (.t 8)
  (.seq (.ops [⟨(some 4), none, .mv (.c (.bool false))⟩])
  .ret)
  .skip))
 (.seq (.ops [⟨(some 9), none, .mv (.t 0)⟩,
   ⟨(some 10), none, .nilchk (.t 9)⟩,
   ⟨(some 11), none, .fld 1 (.t 10)⟩,
   ⟨(some 12), none, .load1 (.t 11)⟩,
   ⟨(some 13), none, .bin .add (.t 12) (.c (.int .i64 1))⟩,
   ⟨(some 14), none, .nilchk (.t 9)⟩,
   ⟨(some 15), none, .fld 1 (.t 14)⟩,
   ⟨none, none, .store 1 (.t 15) (.t 13)⟩])
 (.seq (.ops [⟨(some 4), none, .mv (.c (.bool true))⟩])
 .ret))))⟩
def i56 : IFn := ⟨33, [.cellN 5 2],
 (.seq (.ops [⟨(some 2), none, .alloc 79 [(.str []), (.int .i64 0), (.int .i64 0), (.int .i64 0), (.int .i64 0)]⟩])
 (.seq (.ops [⟨(some 5), none, .mv (.t 0)⟩,
   ⟨(some 6), none, .callf 93 [(.t 5)]⟩,
   ⟨(some 7), none, .mv (.t 0)⟩,
   ⟨(some 8), none, .callf 94 [(.t 7)]⟩,
   ⟨(some 9), none, .build [(.str []), (.int .i64 0), (.int .i64 0), (.int .i64 0), (.int .i64 0)] [(4, 1, (.t 6)), (0, 1, (.t 8))]⟩,
   ⟨(some 3), none, .alloc 79 [(.str []), (.int .i64 0), (.int .i64 0), (.int .i64 0), (.int .i64 0)]⟩,
   ⟨none, none, .store 5 (.t 3) (.t 9)⟩])
 (.seq (.ops [⟨(some 10), none, .mv (.t 0)⟩,
   ⟨(some 11), none, .callf 95 [(.t 10), (.c (.str [58]))]⟩])
 (.seq (.ops [⟨(some 12), none, .mv (.t 0)⟩,
   ⟨(some 13), none, .callf 96 [(.t 12)]⟩,
   ⟨(some 14), none, .fld 1 (.t 3)⟩,
   ⟨none, none, .store 1 (.t 14) (.t 13)⟩])
 (.seq (.ops [⟨(some 15), none, .mv (.t 0)⟩,
   ⟨(some 16), none, .callf 97 [(.t 15)]⟩,
   ⟨(some 17), none, .fld 2 (.t 3)⟩,
   ⟨none, none, .store 1 (.t 17) (.t 16)⟩])
 (.seq (.seq (.ops [⟨(some 18), none, .mv (.t 0)⟩,
   ⟨(some 19), none, .callf 55 [(.t 18), (.c (.str [61]))]⟩])
 (.cond (.t 19)
  (.seq (.ops [⟨(some 20), none, .mv (.t 0)⟩,
    ⟨(some 21), none, .callf 55 [(.t 20), (.c (.str [45]))]⟩,
    ⟨(some 4), none, .mv (.t 21)⟩])
  (.seq (.ops [⟨(some 22), none, .mv (.t 0)⟩,
    ⟨(some 23), none, .callf 98 [(.t 22)]⟩,
    ⟨(some 24), none, .fld 3 (.t 3)⟩,
    ⟨none, none, .store 1 (.t 24) (.t 23)⟩])
  (.seq (.ops [⟨(some 25), none, .mv (.t 4)⟩])
  (.cond (.t 25)
   (.ops [⟨(some 26), none, .fld 3 (.t 3)⟩,
     ⟨(some 27), none, .load1 (.t 26)⟩,
     ⟨(some 28), none, .neg (.t 27)⟩,
     ⟨(some 29), none, .fld 3 (.t 3)⟩,
     ⟨none, none, .store 1 (.t 29) (.t 28)⟩])
   .skip))))
  .skip))
 (.seq (.ops [⟨(some 30), none, .mv (.t 0)⟩,
   ⟨(some 31), none, .callf 95 [(.t 30), (.c (.str [59]))]⟩])
 (.seq (.ops [⟨(some 32), none, .loadN 5 (.t 3)⟩,
   ⟨none, none, .store 5 (.t 2) (.t 32)⟩])
 .ret))))))))⟩
def i57 : IFn := ⟨49, [.cellN 8 2],
 (.seq (.ops [⟨(some 2), none, .alloc 40 [(.str []), (.int .i64 0), .nils, (.int .i64 0), .nils, .nils, .nils, .nils]⟩])
 (.seq (.ops [⟨(some 4), none, .mv (.t 0)⟩,
   ⟨(some 5), none, .callf 93 [(.t 4)]⟩,
   ⟨(some 6), none, .mv (.t 0)⟩,
   ⟨(some 7), none, .callf 94 [(.t 6)]⟩,
   ⟨(some 8), none, .build [(.str []), (.int .i64 0), .nils, (.int .i64 0), .nils, .nils, .nils, .nils] [(1, 1, (.t 5)), (0, 1, (.t 7))]⟩,
   ⟨(some 3), none, .alloc 40 [(.str []), (.int .i64 0), .nils, (.int .i64 0), .nils, .nils, .nils, .nils]⟩,
   ⟨none, none, .store 8 (.t 3) (.t 8)⟩])
 (.seq (.ops [⟨(some 9), none, .mv (.t 0)⟩,
   ⟨(some 10), none, .callf 95 [(.t 9), (.c (.str [40]))]⟩])
 (.seq (.seq (.ops [⟨(some 11), none, .mv (.t 0)⟩,
   ⟨(some 12), none, .callf 92 [(.t 11), (.c (.str [41]))]⟩,
   ⟨(some 13), none, .not (.t 12)⟩])
 (.cond (.t 13)
  (.block 0 (.loop (.seq (.seq (.ops [⟨(some 14), none, .mv (.t 0)⟩,
      ⟨(some 15), none, .nilchk (.t 14)⟩,
      ⟨(some 16), none, .fld 3 (.t 15)⟩,
      ⟨(some 17), none, .load1 (.t 16)⟩,
      ⟨(some 18), none, .bin .eql (.t 17) (.c (.int .i64 0))⟩])
    (.cond (.t 18)
     .skip
     (.exit 0)))
    (.block 1 (.seq (.ops [⟨(some 19), none, .fld 2 (.t 3)⟩,
       ⟨(some 20), none, .load1 (.t 19)⟩,
       ⟨(some 21), none, .mv (.t 0)⟩,
       ⟨(some 22), none, .callf 99 [(.t 21)]⟩,
       ⟨none, none, .again 20 (.load1 (.t 19))⟩,
       ⟨(some 23), none, .bslice 77 4 1 [(.str []), (.int .i64 0), (.int .i64 0), (.int .i64 0)] [(0, 4, (.t 22))]⟩,
       ⟨(some 24), none, .append 77 4 40 (.t 20) (.t 23)⟩,
       ⟨(some 25), none, .fld 2 (.t 3)⟩,
       ⟨none, none, .store 1 (.t 25) (.t 24)⟩])
     (.seq (.ops [⟨(some 26), none, .mv (.t 0)⟩,
       ⟨(some 27), none, .callf 55 [(.t 26), (.c (.str [44]))]⟩,
       ⟨(some 28), none, .not (.t 27)⟩])
     (.cond (.t 28)
      (.exit 0)
      .skip)))))))
  .skip))
 (.seq (.ops [⟨(some 29), none, .mv (.t 0)⟩,
   ⟨(some 30), none, .callf 95 [(.t 29), (.c (.str [41]))]⟩])
 (.seq (.seq (.ops [⟨(some 31), none, .mv (.t 0)⟩,
   ⟨(some 32), none, .callf 55 [(.t 31), (.c (.str [58]))]⟩])
 (.cond (.t 32)
  (.ops [⟨(some 33), none, .mv (.t 0)⟩,
    ⟨(some 34), none, .callf 96 [(.t 33)]⟩,
    ⟨(some 35), none, .fld 3 (.t 3)⟩,
    ⟨none, none, .store 1 (.t 35) (.t 34)⟩])
  .skip))
 (.seq (.block 2 (.loop (.seq (.seq (.ops [⟨(some 36), none, .mv (.t 0)⟩,
     ⟨(some 37), none, .nilchk (.t 36)⟩,
     ⟨(some 38), none, .fld 3 (.t 37)⟩,
     ⟨(some 39), none, .load1 (.t 38)⟩,
     ⟨(some 40), none, .bin .eql (.t 39) (.c (.int .i64 0))⟩,
     ⟨(some 41), none, .mv (.t 40)⟩,
     ⟨(some 42), some (41, true), .mv (.t 0)⟩,
     ⟨(some 43), some (41, true), .callf 100 [(.t 42), (.t 3)]⟩,
     ⟨(some 44), none, .pick (.t 41) (.t 43) (.c (.bool false))⟩])
   (.cond (.t 44)
    .skip
    (.exit 2)))
   (.block 3 (.exit 3)))))
 (.seq (.ops [⟨(some 45), none, .mv (.t 0)⟩,
   ⟨(some 46), none, .callf 101 [(.t 45)]⟩,
   ⟨(some 47), none, .fld 7 (.t 3)⟩,
   ⟨none, none, .store 1 (.t 47) (.t 46)⟩])
 (.seq (.ops [⟨(some 48), none, .loadN 8 (.t 3)⟩,
   ⟨none, none, .store 8 (.t 2) (.t 48)⟩])
 .ret)))))))))⟩
def i58 : IFn := ⟨27, [],
 (.seq (.ops [⟨(some 4), none, .mv (.t 0)⟩,
   ⟨(some 5), none, .nilchk (.t 4)⟩,
   ⟨(some 6), none, .fld 3 (.t 5)⟩,
   ⟨(some 7), none, .load1 (.t 6)⟩,
   ⟨(some 8), none, .bin .eql (.t 7) (.c (.int .i64 0))⟩])
 (.cond (.t 8)
  (.seq (.ops [⟨(some 9), none, .mv (.t 0)⟩,
    ⟨(some 10), none, .mv (.t 1)⟩,
    ⟨(some 11), none, .nilchk (.t 9)⟩,
    ⟨(some 12), none, .fld 3 (.t 11)⟩,
    ⟨none, none, .store 1 (.t 12) (.t 10)⟩])
  (.ops [⟨(some 13), none, .mv (.t 0)⟩,
    ⟨(some 14), none, .mv (.t 0)⟩,
    ⟨(some 15), none, .nilchk (.t 14)⟩,
    ⟨(some 16), none, .fld 0 (.t 15)⟩,
    ⟨(some 17), none, .load1 (.t 16)⟩,
    ⟨(some 18), none, .mv (.t 0)⟩,
    ⟨(some 19), none, .nilchk (.t 18)⟩,
    ⟨(some 20), none, .fld 1 (.t 19)⟩,
    ⟨(some 21), none, .load1 (.t 20)⟩,
    ⟨(some 22), none, .idx 3 (.t 17) (.t 21)⟩,
    ⟨(some 23), none, .fld 2 (.t 22)⟩,
    ⟨(some 24), none, .load1 (.t 23)⟩,
    ⟨(some 25), none, .nilchk (.t 13)⟩,
    ⟨(some 26), none, .fld 4 (.t 25)⟩,
    ⟨none, none, .store 1 (.t 26) (.t 24)⟩]))
  .skip))⟩
def i66 : IFn := ⟨15, [],
 (.seq (.ops [⟨(some 7), none, .mv (.t 2)⟩,
   ⟨(some 8), none, .mv (.t 1)⟩,
   ⟨(some 9), none, .callf 67 [(.t 7), (.t 8)]⟩])
 (.cond (.t 9)
  (.ops [⟨(some 10), none, .load1 (.t 3)⟩,
    ⟨(some 11), none, .mv (.t 0)⟩,
    ⟨(some 12), none, .mv (.t 1)⟩,
    ⟨(some 13), none, .callf 69 [(.c (.str [110, 97, 109, 101])), (.t 11), (.c (.int .i64 1)), (.t 12)]⟩,
    ⟨none, none, .again 10 (.load1 (.t 3))⟩,
    ⟨(some 14), none, .callf 68 [(.t 10), (.t 13)]⟩])
  .skip))⟩
def i67 : IFn := ⟨9, [.tmp 4],
 (.seq (.ops [⟨(some 4), none, .mv (.c (.bool false))⟩])
 (.seq (.ops [⟨(some 5), none, .mv (.t 0)⟩,
   ⟨(some 6), none, .mv (.t 1)⟩,
   ⟨(some 7), none, .callf 102 [(.t 5), (.t 6)]⟩,
   ⟨(some 8), none, .bin .geq (.t 7) (.c (.int .i64 0))⟩,
   ⟨(some 4), none, .mv (.t 8)⟩])
 .ret))⟩
def i68 : IFn := ⟨21, [],
 (.seq (.ops [⟨(some 4), none, .alloc 150 [.nilp]⟩])
 (.seq (.ops [⟨(some 5), none, .mv (.t 1)⟩,
   ⟨(some 6), none, .mki 152 (.t 4)⟩,
   ⟨(some 7), none, .callf 103 [(.t 5), (.t 6)]⟩])
 (.cond (.t 7)
  (.ops [⟨(some 8), none, .mv (.t 0)⟩,
    ⟨(some 9), none, .mv (.t 0)⟩,
    ⟨(some 10), none, .nilchk (.t 9)⟩,
    ⟨(some 11), none, .fld 10 (.t 10)⟩,
    ⟨(some 12), none, .load1 (.t 11)⟩,
    ⟨(some 13), none, .load1 (.t 4)⟩,
    ⟨(some 14), none, .nilchk (.t 13)⟩,
    ⟨(some 15), none, .fld 0 (.t 14)⟩,
    ⟨(some 16), none, .loadN 3 (.t 15)⟩,
    ⟨(some 17), none, .bslice 48 3 1 [(.int .i64 0), (.int .i64 0), (.str [])] [(0, 3, (.t 16))]⟩,
    ⟨(some 18), none, .append 48 3 32 (.t 12) (.t 17)⟩,
    ⟨(some 19), none, .nilchk (.t 8)⟩,
    ⟨(some 20), none, .fld 10 (.t 19)⟩,
    ⟨none, none, .store 1 (.t 20) (.t 18)⟩])
  .skip)))⟩
def i69 : IFn := ⟨20, [.tmp 8],
 (.seq (.ops [⟨(some 8), none, .mv (.c .nilIface)⟩])
 (.seq (.ops [⟨(some 9), none, .mv (.t 0)⟩,
   ⟨(some 10), none, .mv (.t 1)⟩,
   ⟨(some 11), none, .mv (.t 2)⟩,
   ⟨(some 12), none, .mv (.t 3)⟩,
   ⟨(some 13), none, .build [(.int .i64 0), (.int .i64 0), (.str [])] [(0, 1, (.t 10)), (1, 1, (.t 11)), (2, 1, (.t 12))]⟩,
   ⟨(some 14), none, .build [(.int .i64 0), (.int .i64 0), (.str [])] [(0, 3, (.t 13))]⟩,
   ⟨(some 15), none, .box 154 (.t 14)⟩,
   ⟨(some 16), none, .mki 150 (.t 15)⟩,
   ⟨(some 17), none, .build [(.str []), .nilIface] [(0, 1, (.t 9)), (1, 1, (.t 16))]⟩,
   ⟨(some 18), none, .box 157 (.t 17)⟩,
   ⟨(some 19), none, .mki 155 (.t 18)⟩,
   ⟨(some 8), none, .mv (.t 19)⟩])
 .ret))⟩
def i70 : IFn := ⟨19, [],
 (.seq (.ops [⟨(some 7), none, .mv (.t 1)⟩,
   ⟨(some 8), none, .bin .neq (.t 7) (.c (.int .i64 0))⟩,
   ⟨(some 9), none, .mv (.t 8)⟩,
   ⟨(some 10), some (9, true), .mv (.t 1)⟩,
   ⟨(some 11), some (9, true), .callf 71 [(.t 10)]⟩,
   ⟨(some 12), some (9, true), .not (.t 11)⟩,
   ⟨(some 13), none, .pick (.t 9) (.t 12) (.c (.bool false))⟩])
 (.cond (.t 13)
  (.ops [⟨(some 14), none, .load1 (.t 3)⟩,
    ⟨(some 15), none, .mv (.t 0)⟩,
    ⟨(some 16), none, .mv (.t 2)⟩,
    ⟨(some 17), none, .callf 69 [(.c (.str [110, 97, 109, 101])), (.t 15), (.c (.int .i64 4)), (.t 16)]⟩,
    ⟨none, none, .again 14 (.load1 (.t 3))⟩,
    ⟨(some 18), none, .callf 68 [(.t 14), (.t 17)]⟩])
  .skip))⟩
def i71 : IFn := ⟨9, [.tmp 2],
 (.seq (.ops [⟨(some 2), none, .mv (.c (.bool false))⟩])
 (.seq (.ops [⟨(some 3), none, .mv (.t 0)⟩,
   ⟨(some 4), none, .bin .geq (.t 3) (.c (.int .i64 1))⟩,
   ⟨(some 5), none, .mv (.t 4)⟩,
   ⟨(some 6), some (5, true), .mv (.t 0)⟩,
   ⟨(some 7), some (5, true), .bin .leq (.t 6) (.c (.int .i64 16))⟩,
   ⟨(some 8), none, .pick (.t 5) (.t 7) (.c (.bool false))⟩,
   ⟨(some 2), none, .mv (.t 8)⟩])
 .ret))⟩
def i72 : IFn := ⟨20, [.tmp 4],
 (.seq (.ops [⟨(some 4), none, .mv (.c (.bool false))⟩])
 (.seq (.ops [⟨(some 5), none, .mv (.t 0)⟩,
   ⟨(some 6), none, .callf 104 [(.t 5)]⟩,
   ⟨(some 7), none, .bin .gtr (.t 6) (.c (.int .i64 0))⟩,
   ⟨(some 8), none, .mv (.t 7)⟩,
   ⟨(some 9), some (8, true), .mv (.t 1)⟩,
   ⟨(some 10), some (8, true), .mv (.t 0)⟩,
   ⟨(some 11), some (8, true), .callf 105 [(.t 10)]⟩,
   ⟨(some 12), some (8, true), .bin .geq (.t 9) (.t 11)⟩,
   ⟨(some 13), none, .pick (.t 8) (.t 12) (.c (.bool false))⟩,
   ⟨(some 14), none, .mv (.t 13)⟩,
   ⟨(some 15), some (14, true), .mv (.t 1)⟩,
   ⟨(some 16), some (14, true), .mv (.t 0)⟩,
   ⟨(some 17), some (14, true), .callf 106 [(.t 16)]⟩,
   ⟨(some 18), some (14, true), .bin .leq (.t 15) (.t 17)⟩,
   ⟨(some 19), none, .pick (.t 14) (.t 18) (.c (.bool false))⟩,
   ⟨(some 4), none, .mv (.t 19)⟩])
 .ret))⟩
def i73 : IFn := ⟨8, [.tmp 2],
 (.seq (.ops [⟨(some 2), none, .mv (.c .nils)⟩])
 (.seq (.seq (.ops [⟨(some 3), none, .mv (.t 0)⟩,
   ⟨(some 4), none, .eql false .slice (.t 3) (.c .nils)⟩])
 (.cond (.t 4)
  (.seq (.ops [⟨(some 2), none, .mv (.c .nils)⟩])
  .ret)
  .skip))
 (.seq (.ops [⟨(some 5), none, .bslice 9 1 0 [] []⟩,
   ⟨(some 6), none, .mv (.t 0)⟩,
   ⟨(some 7), none, .append 9 1 16 (.t 5) (.t 6)⟩,
   ⟨(some 2), none, .mv (.t 7)⟩])
 .ret)))⟩
def i74 : IFn := ⟨20, [],
 (.seq (.ops [⟨(some 5), none, .box 133 (.t 2)⟩])
 (.seq (.ops [⟨(some 8), none, .mv (.t 1)⟩,
   ⟨(some 9), none, .len (.t 8)⟩,
   ⟨(some 10), none, .mv (.c (.int .i64 0))⟩])
 (.block 0 (.loop (.seq (.ops [⟨(some 11), none, .bin .lss (.t 10) (.t 9)⟩])
   (.seq (.cond (.t 11)
    .skip
    (.exit 0))
   (.seq (.block 1 (.seq (.ops [⟨(some 12), none, .idx 2 (.t 8) (.t 10)⟩,
      ⟨(some 13), none, .loadN 2 (.t 12)⟩,
      ⟨(some 7), none, .alloc 139 [(.int .i64 0), .nils]⟩,
      ⟨none, none, .store 2 (.t 7) (.t 13)⟩])
    (.ops [⟨(some 14), none, .mv (.t 0)⟩,
      ⟨(some 15), none, .fld 1 (.t 7)⟩,
      ⟨(some 16), none, .load1 (.t 15)⟩,
      ⟨(some 17), none, .loadN 3 (.t 5)⟩,
      ⟨(some 18), none, .callf 107 [(.t 14), (.t 16), (.t 17)]⟩])))
   (.ops [⟨(some 19), none, .bin .add (.t 10) (.c (.int .i64 1))⟩,
     ⟨(some 10), none, .mv (.t 19)⟩]))))))))⟩
def i76 : IFn := ⟨31, [],
 (.seq (.ops [⟨(some 7), none, .mv (.t 0)⟩,
   ⟨(some 8), none, .nilchk (.t 7)⟩,
   ⟨(some 9), none, .fld 11 (.t 8)⟩,
   ⟨(some 10), none, .load1 (.t 9)⟩,
   ⟨(some 11), none, .len (.t 10)⟩,
   ⟨(some 4), none, .mv (.t 11)⟩])
 (.seq (.seq (.ops [⟨(some 12), none, .mv (.t 1)⟩,
   ⟨(some 13), none, .len (.t 12)⟩,
   ⟨(some 14), none, .mv (.c (.int .i64 0))⟩])
 (.block 0 (.loop (.seq (.ops [⟨(some 15), none, .bin .lss (.t 14) (.t 13)⟩])
   (.seq (.cond (.t 15)
    .skip
    (.exit 0))
   (.seq (.block 1 (.seq (.ops [⟨(some 16), none, .idx 15 (.t 12) (.t 14)⟩,
      ⟨(some 17), none, .loadN 15 (.t 16)⟩,
      ⟨(some 6), none, .alloc 114 [(.int .i64 0), (.int .i64 0), (.str []), (.int .i64 0), (.int .i64 0), .nils, .nils, (.bool false), (.str []), .nils, .nils, .nils, .nils, .nils, .nils]⟩,
      ⟨none, none, .store 15 (.t 6) (.t 17)⟩])
    (.ops [⟨(some 18), none, .mv (.t 0)⟩,
      ⟨(some 19), none, .loadN 15 (.t 6)⟩,
      ⟨(some 20), none, .callf 109 [(.t 18), (.t 19)]⟩])))
   (.ops [⟨(some 21), none, .bin .add (.t 14) (.c (.int .i64 1))⟩,
     ⟨(some 14), none, .mv (.t 21)⟩])))))))
 (.ops [⟨(some 22), none, .mv (.t 0)⟩,
   ⟨(some 23), none, .mv (.t 0)⟩,
   ⟨(some 24), none, .nilchk (.t 23)⟩,
   ⟨(some 25), none, .fld 11 (.t 24)⟩,
   ⟨(some 26), none, .load1 (.t 25)⟩,
   ⟨(some 27), none, .mv (.t 4)⟩,
   ⟨(some 28), none, .slice 6 (.t 26) none (some (.t 27)) none⟩,
   ⟨(some 29), none, .nilchk (.t 22)⟩,
   ⟨(some 30), none, .fld 11 (.t 29)⟩,
   ⟨none, none, .store 1 (.t 30) (.t 28)⟩])))⟩
def i82 : IFn := ⟨22, [.tmp 2],
 (.seq (.ops [⟨(some 2), none, .mv (.c (.int .i64 0))⟩])
 (.seq (.block 0 (.seq (.ops [⟨(some 4), none, .mv (.t 0)⟩,
    ⟨(some 5), none, .callf 84 [(.t 4)]⟩,
    ⟨(some 6), none, .bin .eql (.t 5) (.c (.int .i64 0))⟩,
    ⟨(some 3), none, .mv (.t 6)⟩])
  (.cond (.t 3)
   (.seq (.ops [⟨(some 2), none, .mv (.c (.int .i64 0))⟩])
   .ret)
   (.seq (.ops [⟨(some 8), none, .mv (.t 0)⟩,
     ⟨(some 9), none, .bin .rem (.t 8) (.c (.int .i64 2))⟩,
     ⟨(some 10), none, .bin .eql (.t 9) (.c (.int .i64 0))⟩,
     ⟨(some 7), none, .mv (.t 10)⟩])
   (.cond (.t 7)
    (.seq (.ops [⟨(some 11), none, .mv (.t 0)⟩,
      ⟨(some 12), none, .callf 84 [(.t 11)]⟩,
      ⟨(some 13), none, .conv .u64 (.t 12)⟩,
      ⟨(some 14), none, .bin .shl (.c (.int .i64 1)) (.t 13)⟩,
      ⟨(some 15), none, .bin .sub (.t 14) (.c (.int .i64 1))⟩,
      ⟨(some 2), none, .mv (.t 15)⟩])
    .ret)
    .skip)))))
 (.seq (.ops [⟨(some 16), none, .mv (.t 0)⟩,
   ⟨(some 17), none, .callf 84 [(.t 16)]⟩,
   ⟨(some 18), none, .bin .sub (.t 17) (.c (.int .i64 1))⟩,
   ⟨(some 19), none, .conv .u64 (.t 18)⟩,
   ⟨(some 20), none, .bin .shl (.c (.int .i64 1)) (.t 19)⟩,
   ⟨(some 21), none, .bin .sub (.t 20) (.c (.int .i64 1))⟩,
   ⟨(some 2), none, .mv (.t 21)⟩])
 .ret)))⟩
def i84 : IFn := ⟨14, [.tmp 2],
 (.seq (.ops [⟨(some 2), none, .mv (.c (.int .i64 0))⟩])
 (.seq (.seq (.ops [⟨(some 3), none, .mv (.t 0)⟩,
   ⟨(some 4), none, .bin .lss (.t 3) (.c (.int .i64 1))⟩,
   ⟨(some 5), none, .mv (.t 4)⟩,
   ⟨(some 6), some (5, false), .mv (.t 0)⟩,
   ⟨(some 7), some (5, false), .bin .gtr (.t 6) (.c (.int .i64 6))⟩,
   ⟨(some 8), none, .pick (.t 5) (.c (.bool true)) (.t 7)⟩])
 (.cond (.t 8)
  (.seq (.ops [⟨(some 2), none, .mv (.c (.int .i64 0))⟩])
  .ret)
  .skip))
 (.seq (.ops [⟨(some 9), none, .mv (.t 0)⟩,
   ⟨(some 10), none, .bin .sub (.t 9) (.c (.int .i64 1))⟩,
   ⟨(some 11), none, .bin .quo (.t 10) (.c (.int .i64 2))⟩,
   ⟨(some 12), none, .conv .u64 (.t 11)⟩,
   ⟨(some 13), none, .bin .shl (.c (.int .i64 8)) (.t 12)⟩,
   ⟨(some 2), none, .mv (.t 13)⟩])
 .ret)))⟩
def i90 : IFn := ⟨13, [.tmp 2],
 (.seq (.ops [⟨(some 2), none, .mv (.c (.int .i64 0))⟩])
 (.seq (.seq (.ops [⟨(some 3), none, .mv (.c (.int .i64 1))⟩])
 (.block 0 (.loop (.seq (.seq (.ops [⟨(some 4), none, .mv (.t 3)⟩,
     ⟨(some 5), none, .bin .leq (.t 4) (.c (.int .i64 6))⟩])
   (.cond (.t 5)
    .skip
    (.exit 0)))
   (.seq (.block 1 (.seq (.ops [⟨(some 8), none, .mv (.t 3)⟩,
      ⟨(some 9), none, .callf 120 [(.t 8)]⟩,
      ⟨(some 10), none, .mv (.t 0)⟩,
      ⟨(some 11), none, .bin .eql (.t 9) (.t 10)⟩])
    (.cond (.t 11)
     (.seq (.ops [⟨(some 12), none, .mv (.t 3)⟩,
       ⟨(some 2), none, .mv (.t 12)⟩])
     .ret)
     .skip)))
   (.ops [⟨(some 6), none, .mv (.t 3)⟩,
     ⟨(some 7), none, .bin .add (.t 6) (.c (.int .i64 1))⟩,
     ⟨(some 3), none, .mv (.t 7)⟩]))))))
 (.seq (.ops [⟨(some 2), none, .mv (.c (.int .i64 0))⟩])
 .ret)))⟩
def i91 : IFn := ⟨65, [.tmp 2, .tmp 3, .tmp 4],
 (.seq (.ops [⟨(some 2), none, .mv (.c (.int .i64 0))⟩,
   ⟨(some 3), none, .mv (.c (.int .i64 0))⟩,
   ⟨(some 4), none, .mv (.c (.bool false))⟩])
 (.seq (.ops [⟨(some 10), none, .mv (.t 0)⟩,
   ⟨(some 11), none, .slen (.t 10)⟩,
   ⟨(some 12), none, .callf 82 [(.c (.int .i64 5))]⟩,
   ⟨(some 5), none, .mv (.t 11)⟩,
   ⟨(some 6), none, .mv (.c (.int .i64 5))⟩,
   ⟨(some 7), none, .mv (.t 12)⟩])
 (.seq (.seq (.ops [⟨(some 13), none, .mv (.t 5)⟩,
   ⟨(some 14), none, .bin .gtr (.t 13) (.c (.int .i64 0))⟩,
   ⟨(some 15), none, .mv (.t 14)⟩,
   ⟨(some 16), some (15, true), .mv (.t 0)⟩,
   ⟨(some 17), some (15, true), .mv (.t 5)⟩,
   ⟨(some 18), some (15, true), .bin .sub (.t 17) (.c (.int .i64 1))⟩,
   ⟨(some 19), some (15, true), .sidx (.t 16) (.t 18)⟩,
   ⟨(some 20), some (15, true), .bin .eql (.t 19) (.c (.int .u8 117))⟩,
   ⟨(some 21), none, .pick (.t 15) (.t 20) (.c (.bool false))⟩])
 (.cond (.t 21)
  (.seq (.ops [⟨(some 22), none, .mv (.t 5)⟩,
    ⟨(some 23), none, .bin .sub (.t 22) (.c (.int .i64 1))⟩,
    ⟨(some 5), none, .mv (.t 23)⟩])
  (.seq (.ops [⟨(some 6), none, .mv (.c (.int .i64 6))⟩])
  (.ops [⟨(some 24), none, .callf 82 [(.c (.int .i64 6))]⟩,
    ⟨(some 7), none, .mv (.t 24)⟩])))
  .skip))
 (.seq (.ops [⟨(some 8), none, .mv (.c (.int .i64 0))⟩])
 (.seq (.seq (.ops [⟨(some 9), none, .mv (.c (.int .i64 0))⟩])
 (.block 0 (.loop (.seq (.seq (.ops [⟨(some 25), none, .mv (.t 9)⟩,
     ⟨(some 26), none, .mv (.t 5)⟩,
     ⟨(some 27), none, .bin .lss (.t 25) (.t 26)⟩])
   (.cond (.t 27)
    .skip
    (.exit 0)))
   (.seq (.block 1 (.seq (.seq (.ops [⟨(some 30), none, .mv (.t 0)⟩,
      ⟨(some 31), none, .mv (.t 9)⟩,
      ⟨(some 32), none, .sidx (.t 30) (.t 31)⟩,
      ⟨(some 33), none, .callf 51 [(.t 32)]⟩,
      ⟨(some 34), none, .not (.t 33)⟩,
      ⟨(some 35), none, .mv (.t 34)⟩,
      ⟨(some 36), some (35, false), .mv (.t 5)⟩,
      ⟨(some 37), some (35, false), .bin .gtr (.t 36) (.c (.int .i64 10))⟩,
      ⟨(some 38), none, .pick (.t 35) (.c (.bool true)) (.t 37)⟩,
      ⟨(some 39), none, .mv (.t 38)⟩,
      ⟨(some 40), some (39, false), .mv (.t 5)⟩,
      ⟨(some 41), some (39, false), .bin .gtr (.t 40) (.c (.int .i64 1))⟩,
      ⟨(some 42), some (39, false), .mv (.t 41)⟩,
      ⟨(some 43), some (42, true), .mv (.t 0)⟩,
      ⟨(some 44), some (42, true), .sidx (.t 43) (.c (.int .i64 0))⟩,
      ⟨(some 45), some (42, true), .bin .eql (.t 44) (.c (.int .u8 48))⟩,
      ⟨(some 46), some (39, false), .pick (.t 42) (.t 45) (.c (.bool false))⟩,
      ⟨(some 47), none, .pick (.t 39) (.c (.bool true)) (.t 46)⟩])
    (.cond (.t 47)
     (.seq (.ops [⟨(some 2), none, .mv (.c (.int .i64 0))⟩,
       ⟨(some 3), none, .mv (.c (.int .i64 0))⟩,
       ⟨(some 4), none, .mv (.c (.bool false))⟩])
     .ret)
     .skip))
    (.ops [⟨(some 48), none, .mv (.t 8)⟩,
      ⟨(some 49), none, .bin .mul (.c (.int .i64 10)) (.t 48)⟩,
      ⟨(some 50), none, .mv (.t 0)⟩,
      ⟨(some 51), none, .mv (.t 9)⟩,
      ⟨(some 52), none, .sidx (.t 50) (.t 51)⟩,
      ⟨(some 53), none, .bin .sub (.t 52) (.c (.int .u8 48))⟩,
      ⟨(some 54), none, .conv .i64 (.t 53)⟩,
      ⟨(some 55), none, .bin .add (.t 49) (.t 54)⟩,
      ⟨(some 8), none, .mv (.t 55)⟩])))
   (.ops [⟨(some 28), none, .mv (.t 9)⟩,
     ⟨(some 29), none, .bin .add (.t 28) (.c (.int .i64 1))⟩,
     ⟨(some 9), none, .mv (.t 29)⟩]))))))
 (.seq (.seq (.ops [⟨(some 56), none, .mv (.t 5)⟩,
   ⟨(some 57), none, .bin .eql (.t 56) (.c (.int .i64 0))⟩,
   ⟨(some 58), none, .mv (.t 57)⟩,
   ⟨(some 59), some (58, false), .mv (.t 8)⟩,
   ⟨(some 60), some (58, false), .mv (.t 7)⟩,
   ⟨(some 61), some (58, false), .bin .gtr (.t 59) (.t 60)⟩,
   ⟨(some 62), none, .pick (.t 58) (.c (.bool true)) (.t 61)⟩])
 (.cond (.t 62)
  (.seq (.ops [⟨(some 2), none, .mv (.c (.int .i64 0))⟩,
    ⟨(some 3), none, .mv (.c (.int .i64 0))⟩,
    ⟨(some 4), none, .mv (.c (.bool false))⟩])
  .ret)
  .skip))
 (.seq (.ops [⟨(some 63), none, .mv (.t 8)⟩,
   ⟨(some 64), none, .mv (.t 6)⟩,
   ⟨(some 2), none, .mv (.t 63)⟩,
   ⟨(some 3), none, .mv (.t 64)⟩,
   ⟨(some 4), none, .mv (.c (.bool true))⟩])
 .ret)))))))⟩
def i92 : IFn := ⟨37, [.tmp 4],
 (.seq (.ops [⟨(some 4), none, .mv (.c (.bool false))⟩])
 (.seq (.ops [⟨(some 6), none, .mv (.t 0)⟩,
   ⟨(some 7), none, .nilchk (.t 6)⟩,
   ⟨(some 8), none, .fld 0 (.t 7)⟩,
   ⟨(some 9), none, .load1 (.t 8)⟩,
   ⟨(some 10), none, .mv (.t 0)⟩,
   ⟨(some 11), none, .nilchk (.t 10)⟩,
   ⟨(some 12), none, .fld 1 (.t 11)⟩,
   ⟨(some 13), none, .load1 (.t 12)⟩,
   ⟨(some 14), none, .idx 3 (.t 9) (.t 13)⟩,
   ⟨(some 15), none, .loadN 3 (.t 14)⟩,
   ⟨(some 5), none, .alloc 101 [(.int .i64 0), (.str []), (.int .i64 0)]⟩,
   ⟨none, none, .store 3 (.t 5) (.t 15)⟩])
 (.seq (.ops [⟨(some 16), none, .mv (.t 0)⟩,
   ⟨(some 17), none, .nilchk (.t 16)⟩,
   ⟨(some 18), none, .fld 3 (.t 17)⟩,
   ⟨(some 19), none, .load1 (.t 18)⟩,
   ⟨(some 20), none, .bin .eql (.t 19) (.c (.int .i64 0))⟩,
   ⟨(some 21), none, .mv (.t 20)⟩,
   ⟨(some 22), some (21, true), .fld 0 (.t 5)⟩,
   ⟨(some 23), some (21, true), .load1 (.t 22)⟩,
   ⟨(some 24), some (21, true), .bin .eql (.t 23) (.c (.int .i64 4))⟩,
   ⟨(some 25), some (21, true), .mv (.t 24)⟩,
   ⟨(some 26), some (25, false), .fld 0 (.t 5)⟩,
   ⟨(some 27), some (25, false), .load1 (.t 26)⟩,
   ⟨(some 28), some (25, false), .bin .eql (.t 27) (.c (.int .i64 3))⟩,
   ⟨(some 29), some (21, true), .pick (.t 25) (.c (.bool true)) (.t 28)⟩,
   ⟨(some 30), none, .pick (.t 21) (.t 29) (.c (.bool false))⟩,
   ⟨(some 31), none, .mv (.t 30)⟩,
   ⟨(some 32), some (31, true), .fld 1 (.t 5)⟩,
   ⟨(some 33), some (31, true), .load1 (.t 32)⟩,
   ⟨(some 34), some (31, true), .mv (.t 1)⟩,
   ⟨(some 35), some (31, true), .bin .eql (.t 33) (.t 34)⟩,
   ⟨(some 36), none, .pick (.t 31) (.t 35) (.c (.bool false))⟩,
   ⟨(some 4), none, .mv (.t 36)⟩])
 .ret)))⟩
def i93 : IFn := ⟨14, [.tmp 2],
 (.seq (.ops [⟨(some 2), none, .mv (.c (.int .i64 0))⟩])
 (.seq (.ops [⟨(some 3), none, .mv (.t 0)⟩,
   ⟨(some 4), none, .nilchk (.t 3)⟩,
   ⟨(some 5), none, .fld 0 (.t 4)⟩,
   ⟨(some 6), none, .load1 (.t 5)⟩,
   ⟨(some 7), none, .mv (.t 0)⟩,
   ⟨(some 8), none, .nilchk (.t 7)⟩,
   ⟨(some 9), none, .fld 1 (.t 8)⟩,
   ⟨(some 10), none, .load1 (.t 9)⟩,
   ⟨(some 11), none, .idx 3 (.t 6) (.t 10)⟩,
   ⟨(some 12), none, .fld 2 (.t 11)⟩,
   ⟨(some 13), none, .load1 (.t 12)⟩,
   ⟨(some 2), none, .mv (.t 13)⟩])
 .ret))⟩
def i94 : IFn := ⟨35, [.tmp 2],
 (.seq (.ops [⟨(some 2), none, .mv (.c (.str []))⟩])
 (.seq (.ops [⟨(some 4), none, .mv (.t 0)⟩,
   ⟨(some 5), none, .nilchk (.t 4)⟩,
   ⟨(some 6), none, .fld 0 (.t 5)⟩,
   ⟨(some 7), none, .load1 (.t 6)⟩,
   ⟨(some 8), none, .mv (.t 0)⟩,
   ⟨(some 9), none, .nilchk (.t 8)⟩,
   ⟨(some 10), none, .fld 1 (.t 9)⟩,
   ⟨(some 11), none, .load1 (.t 10)⟩,
   ⟨(some 12), none, .idx 3 (.t 7) (.t 11)⟩,
   ⟨(some 13), none, .loadN 3 (.t 12)⟩,
   ⟨(some 3), none, .alloc 101 [(.int .i64 0), (.str []), (.int .i64 0)]⟩,
   ⟨none, none, .store 3 (.t 3) (.t 13)⟩])
 (.seq (.seq (.ops [⟨(some 14), none, .mv (.t 0)⟩,
   ⟨(some 15), none, .nilchk (.t 14)⟩,
   ⟨(some 16), none, .fld 3 (.t 15)⟩,
   ⟨(some 17), none, .load1 (.t 16)⟩,
   ⟨(some 18), none, .bin .neq (.t 17) (.c (.int .i64 0))⟩,
   ⟨(some 19), none, .mv (.t 18)⟩,
   ⟨(some 20), some (19, false), .fld 0 (.t 3)⟩,
   ⟨(some 21), some (19, false), .load1 (.t 20)⟩,
   ⟨(some 22), some (19, false), .bin .neq (.t 21) (.c (.int .i64 1))⟩,
   ⟨(some 23), none, .pick (.t 19) (.c (.bool true)) (.t 22)⟩])
 (.cond (.t 23)
  (.seq (.ops [⟨(some 24), none, .mv (.t 0)⟩,
    ⟨(some 25), none, .callf 58 [(.t 24), (.c (.int .i64 5))]⟩])
  (.seq (.ops [⟨(some 2), none, .mv (.c (.str []))⟩])
  .ret))
  .skip))
 (.seq (.ops [⟨(some 26), none, .mv (.t 0)⟩,
   ⟨(some 27), none, .nilchk (.t 26)⟩,
   ⟨(some 28), none, .fld 1 (.t 27)⟩,
   ⟨(some 29), none, .load1 (.t 28)⟩,
   ⟨(some 30), none, .bin .add (.t 29) (.c (.int .i64 1))⟩,
   ⟨(some 31), none, .nilchk (.t 26)⟩,
   ⟨(some 32), none, .fld 1 (.t 31)⟩,
   ⟨none, none, .store 1 (.t 32) (.t 30)⟩])
 (.seq (.ops [⟨(some 33), none, .fld 1 (.t 3)⟩,
   ⟨(some 34), none, .load1 (.t 33)⟩,
   ⟨(some 2), none, .mv (.t 34)⟩])
 .ret)))))⟩
def i95 : IFn := ⟨10, [],
 (.seq (.ops [⟨(some 4), none, .mv (.t 0)⟩,
   ⟨(some 5), none, .mv (.t 1)⟩,
   ⟨(some 6), none, .callf 55 [(.t 4), (.t 5)]⟩,
   ⟨(some 7), none, .not (.t 6)⟩])
 (.cond (.t 7)
  (.ops [⟨(some 8), none, .mv (.t 0)⟩,
    ⟨(some 9), none, .callf 58 [(.t 8), (.c (.int .i64 5))]⟩])
  .skip))⟩
def i96 : IFn := ⟨49, [.tmp 2],
 (.seq (.ops [⟨(some 2), none, .mv (.c (.int .i64 0))⟩])
 (.seq (.ops [⟨(some 4), none, .mv (.t 0)⟩,
   ⟨(some 5), none, .nilchk (.t 4)⟩,
   ⟨(some 6), none, .fld 0 (.t 5)⟩,
   ⟨(some 7), none, .load1 (.t 6)⟩,
   ⟨(some 8), none, .mv (.t 0)⟩,
   ⟨(some 9), none, .nilchk (.t 8)⟩,
   ⟨(some 10), none, .fld 1 (.t 9)⟩,
   ⟨(some 11), none, .load1 (.t 10)⟩,
   ⟨(some 12), none, .idx 3 (.t 7) (.t 11)⟩,
   ⟨(some 13), none, .fld 1 (.t 12)⟩,
   ⟨(some 14), none, .load1 (.t 13)⟩,
   ⟨(some 15), none, .callf 90 [(.t 14)]⟩,
   ⟨(some 3), none, .mv (.t 15)⟩])
 (.seq (.seq (.ops [⟨(some 16), none, .mv (.t 0)⟩,
   ⟨(some 17), none, .nilchk (.t 16)⟩,
   ⟨(some 18), none, .fld 3 (.t 17)⟩,
   ⟨(some 19), none, .load1 (.t 18)⟩,
   ⟨(some 20), none, .bin .neq (.t 19) (.c (.int .i64 0))⟩,
   ⟨(some 21), none, .mv (.t 20)⟩,
   ⟨(some 22), some (21, false), .mv (.t 0)⟩,
   ⟨(some 23), some (21, false), .nilchk (.t 22)⟩,
   ⟨(some 24), some (21, false), .fld 0 (.t 23)⟩,
   ⟨(some 25), some (21, false), .load1 (.t 24)⟩,
   ⟨(some 26), some (21, false), .mv (.t 0)⟩,
   ⟨(some 27), some (21, false), .nilchk (.t 26)⟩,
   ⟨(some 28), some (21, false), .fld 1 (.t 27)⟩,
   ⟨(some 29), some (21, false), .load1 (.t 28)⟩,
   ⟨(some 30), some (21, false), .idx 3 (.t 25) (.t 29)⟩,
   ⟨(some 31), some (21, false), .fld 0 (.t 30)⟩,
   ⟨(some 32), some (21, false), .load1 (.t 31)⟩,
   ⟨(some 33), some (21, false), .bin .neq (.t 32) (.c (.int .i64 3))⟩,
   ⟨(some 34), none, .pick (.t 21) (.c (.bool true)) (.t 33)⟩,
   ⟨(some 35), none, .mv (.t 34)⟩,
   ⟨(some 36), some (35, false), .mv (.t 3)⟩,
   ⟨(some 37), some (35, false), .bin .eql (.t 36) (.c (.int .i64 0))⟩,
   ⟨(some 38), none, .pick (.t 35) (.c (.bool true)) (.t 37)⟩])
 (.cond (.t 38)
  (.seq (.ops [⟨(some 39), none, .mv (.t 0)⟩,
    ⟨(some 40), none, .callf 58 [(.t 39), (.c (.int .i64 5))]⟩])
  (.seq (.ops [⟨(some 2), none, .mv (.c (.int .i64 0))⟩])
  .ret))
  .skip))
 (.seq (.ops [⟨(some 41), none, .mv (.t 0)⟩,
   ⟨(some 42), none, .nilchk (.t 41)⟩,
   ⟨(some 43), none, .fld 1 (.t 42)⟩,
   ⟨(some 44), none, .load1 (.t 43)⟩,
   ⟨(some 45), none, .bin .add (.t 44) (.c (.int .i64 1))⟩,
   ⟨(some 46), none, .nilchk (.t 41)⟩,
   ⟨(some 47), none, .fld 1 (.t 46)⟩,
   ⟨none, none, .store 1 (.t 47) (.t 45)⟩])
 (.seq (.ops [⟨(some 48), none, .mv (.t 3)⟩,
   ⟨(some 2), none, .mv (.t 48)⟩])
 .ret)))))⟩
def i97 : IFn := ⟨12, [.tmp 2],
 (.seq (.ops [⟨(some 2), none, .mv (.c (.int .i64 0))⟩])
 (.seq (.seq (.ops [⟨(some 4), none, .mv (.t 0)⟩,
   ⟨(some 5), none, .callf 55 [(.t 4), (.c (.str [91]))]⟩,
   ⟨(some 6), none, .not (.t 5)⟩])
 (.cond (.t 6)
  (.seq (.ops [⟨(some 2), none, .mv (.c (.int .i64 0))⟩])
  .ret)
  .skip))
 (.seq (.ops [⟨(some 7), none, .mv (.t 0)⟩,
   ⟨(some 8), none, .callf 98 [(.t 7)]⟩,
   ⟨(some 3), none, .mv (.t 8)⟩])
 (.seq (.ops [⟨(some 9), none, .mv (.t 0)⟩,
   ⟨(some 10), none, .callf 95 [(.t 9), (.c (.str [93]))]⟩])
 (.seq (.ops [⟨(some 11), none, .mv (.t 3)⟩,
   ⟨(some 2), none, .mv (.t 11)⟩])
 .ret)))))⟩
def i98 : IFn := ⟨44, [.tmp 2],
 (.seq (.ops [⟨(some 2), none, .mv (.c (.int .i64 0))⟩])
 (.seq (.ops [⟨(some 7), none, .mv (.t 0)⟩,
   ⟨(some 8), none, .nilchk (.t 7)⟩,
   ⟨(some 9), none, .fld 0 (.t 8)⟩,
   ⟨(some 10), none, .load1 (.t 9)⟩,
   ⟨(some 11), none, .mv (.t 0)⟩,
   ⟨(some 12), none, .nilchk (.t 11)⟩,
   ⟨(some 13), none, .fld 1 (.t 12)⟩,
   ⟨(some 14), none, .load1 (.t 13)⟩,
   ⟨(some 15), none, .idx 3 (.t 10) (.t 14)⟩,
   ⟨(some 16), none, .loadN 3 (.t 15)⟩,
   ⟨(some 3), none, .alloc 101 [(.int .i64 0), (.str []), (.int .i64 0)]⟩,
   ⟨none, none, .store 3 (.t 3) (.t 16)⟩])
 (.seq (.seq (.ops [⟨(some 17), none, .mv (.t 0)⟩,
   ⟨(some 18), none, .nilchk (.t 17)⟩,
   ⟨(some 19), none, .fld 3 (.t 18)⟩,
   ⟨(some 20), none, .load1 (.t 19)⟩,
   ⟨(some 21), none, .bin .neq (.t 20) (.c (.int .i64 0))⟩,
   ⟨(some 22), none, .mv (.t 21)⟩,
   ⟨(some 23), some (22, false), .fld 0 (.t 3)⟩,
   ⟨(some 24), some (22, false), .load1 (.t 23)⟩,
   ⟨(some 25), some (22, false), .bin .neq (.t 24) (.c (.int .i64 2))⟩,
   ⟨(some 26), none, .pick (.t 22) (.c (.bool true)) (.t 25)⟩])
 (.cond (.t 26)
  (.seq (.ops [⟨(some 27), none, .mv (.t 0)⟩,
    ⟨(some 28), none, .callf 58 [(.t 27), (.c (.int .i64 5))]⟩])
  (.seq (.ops [⟨(some 2), none, .mv (.c (.int .i64 0))⟩])
  .ret))
  .skip))
 (.seq (.ops [⟨(some 29), none, .mv (.t 0)⟩,
   ⟨(some 30), none, .nilchk (.t 29)⟩,
   ⟨(some 31), none, .fld 1 (.t 30)⟩,
   ⟨(some 32), none, .load1 (.t 31)⟩,
   ⟨(some 33), none, .bin .add (.t 32) (.c (.int .i64 1))⟩,
   ⟨(some 34), none, .nilchk (.t 29)⟩,
   ⟨(some 35), none, .fld 1 (.t 34)⟩,
   ⟨none, none, .store 1 (.t 35) (.t 33)⟩])
 (.seq (.ops [⟨(some 37), none, .fld 1 (.t 3)⟩,
   ⟨(some 38), none, .load1 (.t 37)⟩,
   ⟨(some 39), none, .callf 91 [(.t 38)]⟩,
   ⟨(some 36), none, .mv (.t 39)⟩,
   ⟨(some 40), none, .ext 0 (.t 36)⟩,
   ⟨(some 41), none, .ext 1 (.t 36)⟩,
   ⟨(some 42), none, .ext 2 (.t 36)⟩,
   ⟨(some 4), none, .mv (.t 40)⟩,
   ⟨(some 5), none, .mv (.t 41)⟩,
   ⟨(some 6), none, .mv (.t 42)⟩])
 (.seq (.ops [⟨(some 43), none, .mv (.t 4)⟩,
   ⟨(some 2), none, .mv (.t 43)⟩])
 .ret))))))⟩
def i99 : IFn := ⟨18, [.cellN 4 2],
 (.seq (.ops [⟨(some 2), none, .alloc 77 [(.str []), (.int .i64 0), (.int .i64 0), (.int .i64 0)]⟩])
 (.seq (.ops [⟨(some 4), none, .mv (.t 0)⟩,
   ⟨(some 5), none, .callf 93 [(.t 4)]⟩,
   ⟨(some 6), none, .mv (.t 0)⟩,
   ⟨(some 7), none, .callf 94 [(.t 6)]⟩,
   ⟨(some 8), none, .build [(.str []), (.int .i64 0), (.int .i64 0), (.int .i64 0)] [(3, 1, (.t 5)), (0, 1, (.t 7))]⟩,
   ⟨(some 3), none, .alloc 77 [(.str []), (.int .i64 0), (.int .i64 0), (.int .i64 0)]⟩,
   ⟨none, none, .store 4 (.t 3) (.t 8)⟩])
 (.seq (.ops [⟨(some 9), none, .mv (.t 0)⟩,
   ⟨(some 10), none, .callf 95 [(.t 9), (.c (.str [58]))]⟩])
 (.seq (.ops [⟨(some 11), none, .mv (.t 0)⟩,
   ⟨(some 12), none, .callf 96 [(.t 11)]⟩,
   ⟨(some 13), none, .fld 1 (.t 3)⟩,
   ⟨none, none, .store 1 (.t 13) (.t 12)⟩])
 (.seq (.ops [⟨(some 14), none, .mv (.t 0)⟩,
   ⟨(some 15), none, .callf 97 [(.t 14)]⟩,
   ⟨(some 16), none, .fld 2 (.t 3)⟩,
   ⟨none, none, .store 1 (.t 16) (.t 15)⟩])
 (.seq (.ops [⟨(some 17), none, .loadN 4 (.t 3)⟩,
   ⟨none, none, .store 4 (.t 2) (.t 17)⟩])
 .ret))))))⟩
def i100 : IFn := ⟨55, [.tmp 4],
 (.seq (.ops [⟨(some 4), none, .mv (.c (.bool false))⟩])
 (.seq (.ops [⟨(some 6), none, .mv (.t 0)⟩,
   ⟨(some 7), none, .callf 93 [(.t 6)]⟩,
   ⟨(some 8), none, .build [(.int .i64 0), .nils] [(0, 1, (.t 7))]⟩,
   ⟨(some 5), none, .alloc 139 [(.int .i64 0), .nils]⟩,
   ⟨none, none, .store 2 (.t 5) (.t 8)⟩])
 (.seq (.block 0 (.seq (.ops [⟨(some 10), none, .mv (.t 0)⟩,
    ⟨(some 11), none, .callf 55 [(.t 10), (.c (.str [114, 101, 113, 117, 105, 114, 101, 115]))]⟩,
    ⟨(some 9), none, .mv (.t 11)⟩])
  (.cond (.t 9)
   (.seq (.ops [⟨(some 12), none, .mv (.t 0)⟩,
     ⟨(some 13), none, .callf 121 [(.t 12), (.c .nils)]⟩,
     ⟨(some 14), none, .fld 1 (.t 5)⟩,
     ⟨none, none, .store 1 (.t 14) (.t 13)⟩])
   (.ops [⟨(some 15), none, .mv (.t 1)⟩,
     ⟨(some 16), none, .mv (.t 1)⟩,
     ⟨(some 17), none, .nilchk (.t 16)⟩,
     ⟨(some 18), none, .fld 4 (.t 17)⟩,
     ⟨(some 19), none, .load1 (.t 18)⟩,
     ⟨(some 20), none, .loadN 2 (.t 5)⟩,
     ⟨(some 21), none, .bslice 139 2 1 [(.int .i64 0), .nils] [(0, 2, (.t 20))]⟩,
     ⟨(some 22), none, .append 139 2 32 (.t 19) (.t 21)⟩,
     ⟨(some 23), none, .nilchk (.t 15)⟩,
     ⟨(some 24), none, .fld 4 (.t 23)⟩,
     ⟨none, none, .store 1 (.t 24) (.t 22)⟩]))
   (.seq (.ops [⟨(some 26), none, .mv (.t 0)⟩,
     ⟨(some 27), none, .callf 55 [(.t 26), (.c (.str [101, 110, 115, 117, 114, 101, 115]))]⟩,
     ⟨(some 25), none, .mv (.t 27)⟩])
   (.cond (.t 25)
    (.seq (.ops [⟨(some 28), none, .mv (.t 0)⟩,
      ⟨(some 29), none, .callf 121 [(.t 28), (.c .nils)]⟩,
      ⟨(some 30), none, .fld 1 (.t 5)⟩,
      ⟨none, none, .store 1 (.t 30) (.t 29)⟩])
    (.ops [⟨(some 31), none, .mv (.t 1)⟩,
      ⟨(some 32), none, .mv (.t 1)⟩,
      ⟨(some 33), none, .nilchk (.t 32)⟩,
      ⟨(some 34), none, .fld 5 (.t 33)⟩,
      ⟨(some 35), none, .load1 (.t 34)⟩,
      ⟨(some 36), none, .loadN 2 (.t 5)⟩,
      ⟨(some 37), none, .bslice 139 2 1 [(.int .i64 0), .nils] [(0, 2, (.t 36))]⟩,
      ⟨(some 38), none, .append 139 2 32 (.t 35) (.t 37)⟩,
      ⟨(some 39), none, .nilchk (.t 31)⟩,
      ⟨(some 40), none, .fld 5 (.t 39)⟩,
      ⟨none, none, .store 1 (.t 40) (.t 38)⟩]))
    (.seq (.ops [⟨(some 42), none, .mv (.t 0)⟩,
      ⟨(some 43), none, .callf 55 [(.t 42), (.c (.str [97, 115, 115, 105, 103, 110, 115]))]⟩,
      ⟨(some 41), none, .mv (.t 43)⟩])
    (.cond (.t 41)
     (.ops [⟨(some 44), none, .mv (.t 1)⟩,
       ⟨(some 45), none, .mv (.t 0)⟩,
       ⟨(some 46), none, .mv (.t 1)⟩,
       ⟨(some 47), none, .nilchk (.t 46)⟩,
       ⟨(some 48), none, .fld 6 (.t 47)⟩,
       ⟨(some 49), none, .load1 (.t 48)⟩,
       ⟨(some 50), none, .callf 122 [(.t 45), (.t 49)]⟩,
       ⟨(some 51), none, .nilchk (.t 44)⟩,
       ⟨(some 52), none, .fld 6 (.t 51)⟩,
       ⟨none, none, .store 1 (.t 52) (.t 50)⟩])
     (.seq (.ops [⟨(some 4), none, .mv (.c (.bool false))⟩])
     .ret))))))))
 (.seq (.ops [⟨(some 53), none, .mv (.t 0)⟩,
   ⟨(some 54), none, .callf 95 [(.t 53), (.c (.str [59]))]⟩])
 (.seq (.ops [⟨(some 4), none, .mv (.c (.bool true))⟩])
 .ret)))))⟩
def i101 : IFn := ⟨31, [.tmp 2],
 (.seq (.ops [⟨(some 2), none, .mv (.c .nils)⟩])
 (.seq (.ops [⟨(some 3), none, .mv (.c .nils)⟩])
 (.seq (.ops [⟨(some 4), none, .mv (.t 0)⟩,
   ⟨(some 5), none, .callf 123 [(.t 4), (.c (.str [123]))]⟩])
 (.seq (.block 0 (.loop (.seq (.seq (.ops [⟨(some 6), none, .mv (.t 0)⟩,
     ⟨(some 7), none, .nilchk (.t 6)⟩,
     ⟨(some 8), none, .fld 3 (.t 7)⟩,
     ⟨(some 9), none, .load1 (.t 8)⟩,
     ⟨(some 10), none, .bin .eql (.t 9) (.c (.int .i64 0))⟩,
     ⟨(some 11), none, .mv (.t 10)⟩,
     ⟨(some 12), some (11, true), .mv (.t 0)⟩,
     ⟨(some 13), some (11, true), .callf 92 [(.t 12), (.c (.str [125]))]⟩,
     ⟨(some 14), some (11, true), .not (.t 13)⟩,
     ⟨(some 15), none, .pick (.t 11) (.t 14) (.c (.bool false))⟩])
   (.cond (.t 15)
    .skip
    (.exit 0)))
   (.block 1 (.ops [⟨(some 16), none, .mv (.t 3)⟩,
      ⟨(some 17), none, .mv (.t 0)⟩,
      ⟨(some 18), none, .callf 124 [(.t 17)]⟩,
      ⟨(some 19), none, .bslice 114 15 1 [(.int .i64 0), (.int .i64 0), (.str []), (.int .i64 0), (.int .i64 0), .nils, .nils, (.bool false), (.str []), .nils, .nils, .nils, .nils, .nils, .nils] [(0, 15, (.t 18))]⟩,
      ⟨(some 20), none, .append 114 15 264 (.t 16) (.t 19)⟩,
      ⟨(some 3), none, .mv (.t 20)⟩])))))
 (.seq (.ops [⟨(some 21), none, .mv (.t 0)⟩,
   ⟨(some 22), none, .callf 95 [(.t 21), (.c (.str [125]))]⟩])
 (.seq (.ops [⟨(some 23), none, .mv (.t 0)⟩,
   ⟨(some 24), none, .nilchk (.t 23)⟩,
   ⟨(some 25), none, .fld 2 (.t 24)⟩,
   ⟨(some 26), none, .load1 (.t 25)⟩,
   ⟨(some 27), none, .bin .sub (.t 26) (.c (.int .i64 1))⟩,
   ⟨(some 28), none, .nilchk (.t 23)⟩,
   ⟨(some 29), none, .fld 2 (.t 28)⟩,
   ⟨none, none, .store 1 (.t 29) (.t 27)⟩])
 (.seq (.ops [⟨(some 30), none, .mv (.t 3)⟩,
   ⟨(some 2), none, .mv (.t 30)⟩])
 .ret)))))))⟩
def i102 : IFn := ⟨19, [.tmp 4],
 (.seq (.ops [⟨(some 4), none, .mv (.c (.int .i64 0))⟩])
 (.seq (.seq (.ops [⟨(some 6), none, .mv (.t 0)⟩,
   ⟨(some 7), none, .len (.t 6)⟩,
   ⟨(some 8), none, .mv (.c (.int .i64 0))⟩])
 (.block 0 (.loop (.seq (.ops [⟨(some 9), none, .bin .lss (.t 8) (.t 7)⟩])
   (.seq (.cond (.t 9)
    .skip
    (.exit 0))
   (.seq (.block 1 (.seq (.ops [⟨(some 10), none, .mv (.t 8)⟩,
      ⟨(some 5), none, .mv (.t 10)⟩])
    (.seq (.ops [⟨(some 11), none, .mv (.t 1)⟩,
      ⟨(some 12), none, .mv (.t 0)⟩,
      ⟨(some 13), none, .mv (.t 5)⟩,
      ⟨(some 14), none, .idx 1 (.t 12) (.t 13)⟩,
      ⟨(some 15), none, .load1 (.t 14)⟩,
      ⟨(some 16), none, .bin .eql (.t 11) (.t 15)⟩])
    (.cond (.t 16)
     (.seq (.ops [⟨(some 17), none, .mv (.t 5)⟩,
       ⟨(some 4), none, .mv (.t 17)⟩])
     .ret)
     .skip))))
   (.ops [⟨(some 18), none, .bin .add (.t 8) (.c (.int .i64 1))⟩,
     ⟨(some 8), none, .mv (.t 18)⟩])))))))
 (.seq (.ops [⟨(some 4), none, .mv (.c (.int .i64 (-1)))⟩])
 .ret)))⟩
def i104 : IFn := ⟨21, [.tmp 2],
 (.seq (.ops [⟨(some 2), none, .mv (.c (.int .i64 0))⟩])
 (.seq (.ops [⟨(some 3), none, .mv (.c (.int .i64 0))⟩])
 (.seq (.seq (.ops [⟨(some 4), none, .mv (.t 0)⟩])
 (.block 0 (.seq (.block 3 (.seq (.block 2 (.seq (.block 1 (.seq (.seq (.seq (.seq (.ops [⟨(some 6), none, .bin .eql (.t 4) (.c (.int .i64 5))⟩,
       ⟨(some 5), none, .mv (.t 6)⟩])
     (.cond (.t 5)
      .skip
      (.ops [⟨(some 7), none, .bin .eql (.t 4) (.c (.int .i64 6))⟩,
        ⟨(some 5), none, .mv (.t 7)⟩])))
     (.cond (.t 5)
      (.exit 1)
      .skip))
     (.seq (.seq (.seq (.ops [⟨(some 9), none, .bin .eql (.t 4) (.c (.int .i64 3))⟩,
       ⟨(some 8), none, .mv (.t 9)⟩])
     (.cond (.t 8)
      .skip
      (.ops [⟨(some 10), none, .bin .eql (.t 4) (.c (.int .i64 4))⟩,
        ⟨(some 8), none, .mv (.t 10)⟩])))
     (.cond (.t 8)
      (.exit 2)
      .skip))
     (.seq (.seq (.ops [⟨(some 12), none, .bin .eql (.t 4) (.c (.int .i64 1))⟩,
       ⟨(some 11), none, .mv (.t 12)⟩])
     (.cond (.t 11)
      .skip
      (.ops [⟨(some 13), none, .bin .eql (.t 4) (.c (.int .i64 2))⟩,
        ⟨(some 11), none, .mv (.t 13)⟩])))
     (.cond (.t 11)
      (.exit 3)
      .skip))))
     (.exit 0)))
    (.ops [⟨(some 14), none, .mv (.t 3)⟩,
      ⟨(some 15), none, .bin .add (.t 14) (.c (.int .i64 16))⟩,
      ⟨(some 3), none, .mv (.t 15)⟩])))
   (.ops [⟨(some 16), none, .mv (.t 3)⟩,
     ⟨(some 17), none, .bin .add (.t 16) (.c (.int .i64 8))⟩,
     ⟨(some 3), none, .mv (.t 17)⟩])))
  (.seq (.ops [⟨(some 18), none, .mv (.t 3)⟩,
    ⟨(some 19), none, .bin .add (.t 18) (.c (.int .i64 8))⟩,
    ⟨(some 3), none, .mv (.t 19)⟩])
  (.exit 0)))))
 (.seq (.ops [⟨(some 20), none, .mv (.t 3)⟩,
   ⟨(some 2), none, .mv (.t 20)⟩])
 .ret))))⟩
def i105 : IFn := ⟨10, [.tmp 2],
 (.seq (.ops [⟨(some 2), none, .mv (.c (.int .i64 0))⟩])
 (.seq (.seq (.ops [⟨(some 3), none, .mv (.t 0)⟩,
   ⟨(some 4), none, .callf 129 [(.t 3)]⟩,
   ⟨(some 5), none, .not (.t 4)⟩])
 (.cond (.t 5)
  (.seq (.ops [⟨(some 2), none, .mv (.c (.int .i64 0))⟩])
  .ret)
  .skip))
 (.seq (.ops [⟨(some 6), none, .mv (.t 0)⟩,
   ⟨(some 7), none, .callf 104 [(.t 6)]⟩,
   ⟨(some 8), none, .bin .sub (.t 7) (.c (.int .i64 1))⟩,
   ⟨(some 9), none, .bin .shl (.c (.int .i64 (-1))) (.t 8)⟩,
   ⟨(some 2), none, .mv (.t 9)⟩])
 .ret)))⟩
def i106 : IFn := ⟨17, [.tmp 2],
 (.seq (.ops [⟨(some 2), none, .mv (.c (.int .i64 0))⟩])
 (.seq (.ops [⟨(some 4), none, .mv (.t 0)⟩,
   ⟨(some 5), none, .callf 104 [(.t 4)]⟩,
   ⟨(some 3), none, .mv (.t 5)⟩])
 (.seq (.block 0 (.seq (.ops [⟨(some 7), none, .mv (.t 3)⟩,
    ⟨(some 8), none, .bin .eql (.t 7) (.c (.int .i64 0))⟩,
    ⟨(some 6), none, .mv (.t 8)⟩])
  (.cond (.t 6)
   (.seq (.ops [⟨(some 2), none, .mv (.c (.int .i64 0))⟩])
   .ret)
   (.seq (.ops [⟨(some 10), none, .mv (.t 0)⟩,
     ⟨(some 11), none, .callf 129 [(.t 10)]⟩,
     ⟨(some 9), none, .mv (.t 11)⟩])
   (.cond (.t 9)
    (.ops [⟨(some 12), none, .mv (.t 3)⟩,
      ⟨(some 13), none, .bin .sub (.t 12) (.c (.int .i64 1))⟩,
      ⟨(some 3), none, .mv (.t 13)⟩])
    .skip)))))
 (.seq (.ops [⟨(some 14), none, .mv (.t 3)⟩,
   ⟨(some 15), none, .bin .shl (.c (.int .i64 1)) (.t 14)⟩,
   ⟨(some 16), none, .bin .sub (.t 15) (.c (.int .i64 1))⟩,
   ⟨(some 2), none, .mv (.t 16)⟩])
 .ret))))⟩
def i107 : IFn := ⟨25, [],
 (.seq (.ops [⟨(some 5), none, .box 133 (.t 2)⟩])
 (.seq (.ops [⟨(some 8), none, .mv (.t 1)⟩,
   ⟨(some 9), none, .len (.t 8)⟩,
   ⟨(some 10), none, .mv (.c (.int .i64 0))⟩])
 (.block 0 (.loop (.seq (.ops [⟨(some 11), none, .bin .lss (.t 10) (.t 9)⟩])
   (.seq (.cond (.t 11)
    .skip
    (.exit 0))
   (.seq (.block 1 (.seq (.ops [⟨(some 12), none, .idx 7 (.t 8) (.t 10)⟩,
      ⟨(some 13), none, .loadN 7 (.t 12)⟩,
      ⟨(some 7), none, .alloc 163 [(.int .i64 0), (.int .i64 0), .nils, .nils, (.int .i64 0), (.int .i64 0), (.int .i64 0)]⟩,
      ⟨none, none, .store 7 (.t 7) (.t 13)⟩])
    (.seq (.ops [⟨(some 14), none, .mv (.t 0)⟩,
      ⟨(some 15), none, .fld 2 (.t 7)⟩,
      ⟨(some 16), none, .load1 (.t 15)⟩,
      ⟨(some 17), none, .loadN 3 (.t 5)⟩,
      ⟨(some 18), none, .callf 130 [(.t 14), (.t 16), (.t 17)]⟩])
    (.ops [⟨(some 19), none, .mv (.t 0)⟩,
      ⟨(some 20), none, .fld 3 (.t 7)⟩,
      ⟨(some 21), none, .load1 (.t 20)⟩,
      ⟨(some 22), none, .loadN 3 (.t 5)⟩,
      ⟨(some 23), none, .callf 130 [(.t 19), (.t 21), (.t 22)]⟩]))))
   (.ops [⟨(some 24), none, .bin .add (.t 10) (.c (.int .i64 1))⟩,
     ⟨(some 10), none, .mv (.t 24)⟩]))))))))⟩
def i109 : IFn := ⟨144, [],
 (.seq (.ops [⟨(some 3), none, .box 114 (.t 1)⟩])
 (.seq (.seq (.ops [⟨(some 6), none, .fld 0 (.t 3)⟩,
   ⟨(some 7), none, .load1 (.t 6)⟩,
   ⟨(some 8), none, .bin .neq (.t 7) (.c (.int .i64 5))⟩,
   ⟨(some 9), none, .mv (.t 8)⟩,
   ⟨(some 10), some (9, true), .fld 0 (.t 3)⟩,
   ⟨(some 11), some (9, true), .load1 (.t 10)⟩,
   ⟨(some 12), some (9, true), .bin .neq (.t 11) (.c (.int .i64 7))⟩,
   ⟨(some 13), none, .pick (.t 9) (.t 12) (.c (.bool false))⟩])
 (.cond (.t 13)
  (.seq (.ops [⟨(some 14), none, .mv (.t 0)⟩,
    ⟨(some 15), none, .fld 5 (.t 3)⟩,
    ⟨(some 16), none, .load1 (.t 15)⟩,
    ⟨(some 17), none, .build [(.bool false), (.bool false), (.bool false)] []⟩,
    ⟨(some 18), none, .callf 130 [(.t 14), (.t 16), (.t 17)]⟩])
  (.seq (.ops [⟨(some 19), none, .mv (.t 0)⟩,
    ⟨(some 20), none, .fld 6 (.t 3)⟩,
    ⟨(some 21), none, .load1 (.t 20)⟩,
    ⟨(some 22), none, .build [(.bool false), (.bool false), (.bool false)] []⟩,
    ⟨(some 23), none, .callf 130 [(.t 19), (.t 21), (.t 22)]⟩])
  (.ops [⟨(some 24), none, .mv (.t 0)⟩,
    ⟨(some 25), none, .fld 10 (.t 3)⟩,
    ⟨(some 26), none, .load1 (.t 25)⟩,
    ⟨(some 27), none, .fld 0 (.t 3)⟩,
    ⟨(some 28), none, .load1 (.t 27)⟩,
    ⟨(some 29), none, .bin .eql (.t 28) (.c (.int .i64 11))⟩,
    ⟨(some 30), none, .build [(.bool false), (.bool false), (.bool false)] [(0, 1, (.t 29))]⟩,
    ⟨(some 31), none, .callf 107 [(.t 24), (.t 26), (.t 30)]⟩])))
  .skip))
 (.seq (.ops [⟨(some 32), none, .fld 0 (.t 3)⟩,
   ⟨(some 33), none, .load1 (.t 32)⟩])
 (.block 0 (.seq (.block 11 (.seq (.block 10 (.block 9 (.seq (.block 8 (.seq (.block 7 (.seq (.block 6 (.seq (.block 5 (.seq (.block 4 (.block 3 (.seq (.block 2 (.block 1 (.seq (.seq (.seq (.ops [⟨(some 35), none, .bin .eql (.t 33) (.c (.int .i64 1))⟩,
               ⟨(some 34), none, .mv (.t 35)⟩])
             (.cond (.t 34)
              (.exit 1)
              .skip))
             (.seq (.seq (.ops [⟨(some 37), none, .bin .eql (.t 33) (.c (.int .i64 2))⟩,
               ⟨(some 36), none, .mv (.t 37)⟩])
             (.cond (.t 36)
              (.exit 2)
              .skip))
             (.seq (.seq (.ops [⟨(some 39), none, .bin .eql (.t 33) (.c (.int .i64 3))⟩,
               ⟨(some 38), none, .mv (.t 39)⟩])
             (.cond (.t 38)
              (.exit 3)
              .skip))
             (.seq (.seq (.ops [⟨(some 41), none, .bin .eql (.t 33) (.c (.int .i64 12))⟩,
               ⟨(some 40), none, .mv (.t 41)⟩])
             (.cond (.t 40)
              (.exit 4)
              .skip))
             (.seq (.seq (.ops [⟨(some 43), none, .bin .eql (.t 33) (.c (.int .i64 4))⟩,
               ⟨(some 42), none, .mv (.t 43)⟩])
             (.cond (.t 42)
              (.exit 5)
              .skip))
             (.seq (.seq (.ops [⟨(some 45), none, .bin .eql (.t 33) (.c (.int .i64 5))⟩,
               ⟨(some 44), none, .mv (.t 45)⟩])
             (.cond (.t 44)
              (.exit 6)
              .skip))
             (.seq (.seq (.ops [⟨(some 47), none, .bin .eql (.t 33) (.c (.int .i64 6))⟩,
               ⟨(some 46), none, .mv (.t 47)⟩])
             (.cond (.t 46)
              (.exit 7)
              .skip))
             (.seq (.seq (.ops [⟨(some 49), none, .bin .eql (.t 33) (.c (.int .i64 7))⟩,
               ⟨(some 48), none, .mv (.t 49)⟩])
             (.cond (.t 48)
              (.exit 8)
              .skip))
             (.seq (.seq (.ops [⟨(some 51), none, .bin .eql (.t 33) (.c (.int .i64 8))⟩,
               ⟨(some 50), none, .mv (.t 51)⟩])
             (.cond (.t 50)
              (.exit 9)
              .skip))
             (.seq (.seq (.ops [⟨(some 53), none, .bin .eql (.t 33) (.c (.int .i64 9))⟩,
               ⟨(some 52), none, .mv (.t 53)⟩])
             (.cond (.t 52)
              (.exit 10)
              .skip))
             (.seq (.ops [⟨(some 55), none, .bin .eql (.t 33) (.c (.int .i64 10))⟩,
               ⟨(some 54), none, .mv (.t 55)⟩])
             (.cond (.t 54)
              (.exit 11)
              .skip))))))))))))
             (.exit 0))))
           (.seq (.ops [⟨(some 56), none, .mv (.t 0)⟩,
             ⟨(some 57), none, .loadN 15 (.t 3)⟩,
             ⟨(some 58), none, .callf 132 [(.t 56), (.t 57)]⟩])
           (.exit 0)))))
         (.seq (.seq (.ops [⟨(some 59), none, .mv (.t 0)⟩,
           ⟨(some 60), none, .fld 1 (.t 3)⟩,
           ⟨(some 61), none, .load1 (.t 60)⟩,
           ⟨(some 62), none, .fld 2 (.t 3)⟩,
           ⟨(some 63), none, .load1 (.t 62)⟩,
           ⟨(some 64), none, .callf 133 [(.t 59), (.t 61), (.t 63)]⟩])
         (.ops [⟨(some 65), none, .mv (.t 0)⟩,
           ⟨(some 66), none, .fld 1 (.t 3)⟩,
           ⟨(some 67), none, .load1 (.t 66)⟩,
           ⟨(some 68), none, .fld 2 (.t 3)⟩,
           ⟨(some 69), none, .load1 (.t 68)⟩,
           ⟨(some 70), none, .callf 134 [(.t 65), (.t 67), (.t 69)]⟩]))
         (.exit 0))))
        (.seq (.seq (.ops [⟨(some 72), none, .mv (.t 0)⟩,
          ⟨(some 73), none, .fld 2 (.t 3)⟩,
          ⟨(some 74), none, .load1 (.t 73)⟩,
          ⟨(some 75), none, .callf 75 [(.t 72), (.t 74)]⟩,
          ⟨(some 71), none, .mv (.t 75)⟩,
          ⟨(some 76), none, .ext 0 (.t 71)⟩,
          ⟨(some 77), none, .ext 1 (.t 71)⟩,
          ⟨(some 4), none, .alloc 130 [(.str []), (.int .i64 0), (.int .i64 0), (.bool false), (.bool false), (.int .i64 0)]⟩,
          ⟨none, none, .store 6 (.t 4) (.t 76)⟩,
          ⟨(some 5), none, .mv (.t 77)⟩])
        (.seq (.block 12 (.seq (.ops [⟨(some 79), none, .mv (.t 5)⟩,
           ⟨(some 80), none, .not (.t 79)⟩,
           ⟨(some 78), none, .mv (.t 80)⟩])
         (.cond (.t 78)
          (.ops [⟨(some 81), none, .mv (.t 0)⟩,
            ⟨(some 82), none, .fld 1 (.t 3)⟩,
            ⟨(some 83), none, .load1 (.t 82)⟩,
            ⟨(some 84), none, .fld 2 (.t 3)⟩,
            ⟨(some 85), none, .load1 (.t 84)⟩,
            ⟨(some 86), none, .callf 69 [(.c (.str [115, 101, 116])), (.t 83), (.c (.int .i64 2)), (.t 85)]⟩,
            ⟨(some 87), none, .callf 68 [(.t 81), (.t 86)]⟩])
          (.seq (.ops [⟨(some 89), none, .fld 2 (.t 4)⟩,
            ⟨(some 90), none, .load1 (.t 89)⟩,
            ⟨(some 91), none, .bin .eql (.t 90) (.c (.int .i64 0))⟩,
            ⟨(some 88), none, .mv (.t 91)⟩])
          (.cond (.t 88)
           (.ops [⟨(some 92), none, .mv (.t 0)⟩,
             ⟨(some 93), none, .fld 1 (.t 3)⟩,
             ⟨(some 94), none, .load1 (.t 93)⟩,
             ⟨(some 95), none, .fld 2 (.t 3)⟩,
             ⟨(some 96), none, .load1 (.t 95)⟩,
             ⟨(some 97), none, .callf 69 [(.c (.str [115, 101, 116])), (.t 94), (.c (.int .i64 3)), (.t 96)]⟩,
             ⟨(some 98), none, .callf 68 [(.t 92), (.t 97)]⟩])
           .skip)))))
        (.ops [⟨(some 99), none, .mv (.t 0)⟩,
          ⟨(some 100), none, .fld 1 (.t 3)⟩,
          ⟨(some 101), none, .load1 (.t 100)⟩,
          ⟨(some 102), none, .fld 2 (.t 3)⟩,
          ⟨(some 103), none, .load1 (.t 102)⟩,
          ⟨(some 104), none, .callf 134 [(.t 99), (.t 101), (.t 103)]⟩])))
        (.exit 0))))
       (.seq (.ops [⟨(some 105), none, .mv (.t 0)⟩,
         ⟨(some 106), none, .loadN 15 (.t 3)⟩,
         ⟨(some 107), none, .callf 135 [(.t 105), (.t 106)]⟩])
       (.exit 0))))
      (.seq (.seq (.ops [⟨(some 108), none, .mv (.t 0)⟩,
        ⟨(some 109), none, .fld 13 (.t 3)⟩,
        ⟨(some 110), none, .load1 (.t 109)⟩,
        ⟨(some 111), none, .callf 76 [(.t 108), (.t 110)]⟩])
      (.ops [⟨(some 112), none, .mv (.t 0)⟩,
        ⟨(some 113), none, .fld 14 (.t 3)⟩,
        ⟨(some 114), none, .load1 (.t 113)⟩,
        ⟨(some 115), none, .callf 76 [(.t 112), (.t 114)]⟩]))
      (.exit 0))))
     (.seq (.ops [⟨(some 116), none, .mv (.t 0)⟩,
       ⟨(some 117), none, .loadN 15 (.t 3)⟩,
       ⟨(some 118), none, .callf 136 [(.t 116), (.t 117)]⟩])
     (.exit 0)))))
   (.seq (.seq (.ops [⟨(some 119), none, .mv (.t 0)⟩,
     ⟨(some 120), none, .nilchk (.t 119)⟩,
     ⟨(some 121), none, .fld 13 (.t 120)⟩,
     ⟨(some 122), none, .load1 (.t 121)⟩,
     ⟨(some 123), none, .len (.t 122)⟩,
     ⟨(some 124), none, .bin .eql (.t 123) (.c (.int .i64 0))⟩])
   (.cond (.t 124)
    (.ops [⟨(some 125), none, .mv (.t 0)⟩,
      ⟨(some 126), none, .fld 1 (.t 3)⟩,
      ⟨(some 127), none, .load1 (.t 126)⟩,
      ⟨(some 128), none, .callf 69 [(.c (.str [108, 111, 111, 112])), (.t 127), (.c (.int .i64 9)), (.c (.str []))]⟩,
      ⟨(some 129), none, .callf 68 [(.t 125), (.t 128)]⟩])
    .skip))
   (.exit 0))))
  (.seq (.seq (.ops [⟨(some 130), none, .fld 7 (.t 3)⟩,
    ⟨(some 131), none, .load1 (.t 130)⟩,
    ⟨(some 132), none, .mv (.t 0)⟩,
    ⟨(some 133), none, .nilchk (.t 132)⟩,
    ⟨(some 134), none, .fld 2 (.t 133)⟩,
    ⟨(some 135), none, .fld 3 (.t 134)⟩,
    ⟨(some 136), none, .load1 (.t 135)⟩,
    ⟨(some 137), none, .bin .neq (.t 136) (.c (.int .i64 0))⟩,
    ⟨(some 138), none, .eql true .bool (.t 131) (.t 137)⟩])
  (.cond (.t 138)
   (.ops [⟨(some 139), none, .mv (.t 0)⟩,
     ⟨(some 140), none, .fld 1 (.t 3)⟩,
     ⟨(some 141), none, .load1 (.t 140)⟩,
     ⟨(some 142), none, .callf 69 [(.c (.str [114, 101, 116, 117, 114, 110])), (.t 141), (.c (.int .i64 7)), (.c (.str []))]⟩,
     ⟨(some 143), none, .callf 68 [(.t 139), (.t 142)]⟩])
   .skip))
  (.exit 0)))))))⟩
def i120 : IFn := ⟨10, [.tmp 2],
 (.seq (.ops [⟨(some 2), none, .mv (.c (.str []))⟩])
 (.seq (.seq (.ops [⟨(some 3), none, .mv (.t 0)⟩,
   ⟨(some 4), none, .callf 84 [(.t 3)]⟩,
   ⟨(some 5), none, .bin .eql (.t 4) (.c (.int .i64 0))⟩])
 (.cond (.t 5)
  (.seq (.ops [⟨(some 2), none, .mv (.c (.str []))⟩])
  .ret)
  .skip))
 (.seq (.ops [⟨(some 6), none, .bslice 9 1 7 [(.str []), (.str []), (.str []), (.str []), (.str []), (.str []), (.str [])] [(0, 1, (.c (.str []))), (1, 1, (.c (.str [105, 56]))), (2, 1, (.c (.str [117, 56]))), (3, 1, (.c (.str [105, 49, 54]))), (4, 1, (.c (.str [117, 49, 54]))), (5, 1, (.c (.str [105, 51, 50]))), (6, 1, (.c (.str [117, 51, 50])))]⟩,
   ⟨(some 7), none, .mv (.t 0)⟩,
   ⟨(some 8), none, .idx 1 (.t 6) (.t 7)⟩,
   ⟨(some 9), none, .load1 (.t 8)⟩,
   ⟨(some 2), none, .mv (.t 9)⟩])
 .ret)))⟩
def i121 : IFn := ⟨39, [.tmp 4],
 (.seq (.ops [⟨(some 4), none, .mv (.c .nils)⟩])
 (.seq (.ops [⟨(some 7), none, .mv (.t 0)⟩,
   ⟨(some 8), none, .mv (.t 1)⟩,
   ⟨(some 9), none, .callf 142 [(.t 7), (.t 8)]⟩,
   ⟨(some 1), none, .mv (.t 9)⟩])
 (.seq (.block 0 (.loop (.seq (.seq (.ops [⟨(some 10), none, .mv (.t 0)⟩,
     ⟨(some 11), none, .nilchk (.t 10)⟩,
     ⟨(some 12), none, .fld 3 (.t 11)⟩,
     ⟨(some 13), none, .load1 (.t 12)⟩,
     ⟨(some 14), none, .bin .eql (.t 13) (.c (.int .i64 0))⟩,
     ⟨(some 15), none, .mv (.t 14)⟩,
     ⟨(some 16), some (15, true), .mv (.t 0)⟩,
     ⟨(some 17), some (15, true), .callf 92 [(.t 16), (.c (.str [111, 114]))]⟩,
     ⟨(some 18), none, .pick (.t 15) (.t 17) (.c (.bool false))⟩])
   (.cond (.t 18)
    .skip
    (.exit 0)))
   (.block 1 (.seq (.ops [⟨(some 19), none, .mv (.t 1)⟩,
      ⟨(some 20), none, .len (.t 19)⟩,
      ⟨(some 21), none, .bin .sub (.t 20) (.c (.int .i64 1))⟩,
      ⟨(some 22), none, .mv (.t 0)⟩,
      ⟨(some 23), none, .callf 93 [(.t 22)]⟩,
      ⟨(some 5), none, .mv (.t 21)⟩,
      ⟨(some 6), none, .mv (.t 23)⟩])
    (.seq (.ops [⟨(some 24), none, .mv (.t 0)⟩,
      ⟨(some 25), none, .callf 95 [(.t 24), (.c (.str [111, 114]))]⟩])
    (.seq (.ops [⟨(some 26), none, .mv (.t 0)⟩,
      ⟨(some 27), none, .mv (.t 1)⟩,
      ⟨(some 28), none, .callf 142 [(.t 26), (.t 27)]⟩,
      ⟨(some 1), none, .mv (.t 28)⟩])
    (.ops [⟨(some 29), none, .mv (.t 1)⟩,
      ⟨(some 30), none, .mv (.t 5)⟩,
      ⟨(some 31), none, .mv (.t 1)⟩,
      ⟨(some 32), none, .len (.t 31)⟩,
      ⟨(some 33), none, .bin .sub (.t 32) (.c (.int .i64 1))⟩,
      ⟨(some 34), none, .mv (.t 6)⟩,
      ⟨(some 35), none, .build [(.int .i64 0), (.int .i64 0), .nils, .nils, (.int .i64 0), (.int .i64 0), (.int .i64 0)] [(0, 1, (.c (.int .i64 4))), (4, 1, (.t 30)), (5, 1, (.t 33)), (6, 1, (.t 34))]⟩,
      ⟨(some 36), none, .bslice 163 7 1 [(.int .i64 0), (.int .i64 0), .nils, .nils, (.int .i64 0), (.int .i64 0), (.int .i64 0)] [(0, 7, (.t 35))]⟩,
      ⟨(some 37), none, .append 163 7 88 (.t 29) (.t 36)⟩,
      ⟨(some 1), none, .mv (.t 37)⟩]))))))))
 (.seq (.ops [⟨(some 38), none, .mv (.t 1)⟩,
   ⟨(some 4), none, .mv (.t 38)⟩])
 .ret))))⟩
def i122 : IFn := ⟨22, [.tmp 4],
 (.seq (.ops [⟨(some 4), none, .mv (.c .nils)⟩])
 (.seq (.seq (.ops [⟨(some 5), none, .mv (.t 0)⟩,
   ⟨(some 6), none, .callf 55 [(.t 5), (.c (.str [110, 111, 116, 104, 105, 110, 103]))]⟩])
 (.cond (.t 6)
  (.seq (.ops [⟨(some 7), none, .mv (.t 1)⟩,
    ⟨(some 4), none, .mv (.t 7)⟩])
  .ret)
  .skip))
 (.seq (.block 0 (.loop (.seq (.seq (.ops [⟨(some 8), none, .mv (.t 0)⟩,
     ⟨(some 9), none, .nilchk (.t 8)⟩,
     ⟨(some 10), none, .fld 3 (.t 9)⟩,
     ⟨(some 11), none, .load1 (.t 10)⟩,
     ⟨(some 12), none, .bin .eql (.t 11) (.c (.int .i64 0))⟩])
   (.cond (.t 12)
    .skip
    (.exit 0)))
   (.block 1 (.seq (.ops [⟨(some 13), none, .mv (.t 1)⟩,
      ⟨(some 14), none, .mv (.t 0)⟩,
      ⟨(some 15), none, .callf 94 [(.t 14)]⟩,
      ⟨(some 16), none, .bslice 9 1 1 [(.str [])] [(0, 1, (.t 15))]⟩,
      ⟨(some 17), none, .append 9 1 16 (.t 13) (.t 16)⟩,
      ⟨(some 1), none, .mv (.t 17)⟩])
    (.seq (.ops [⟨(some 18), none, .mv (.t 0)⟩,
      ⟨(some 19), none, .callf 55 [(.t 18), (.c (.str [44]))]⟩,
      ⟨(some 20), none, .not (.t 19)⟩])
    (.cond (.t 20)
     (.exit 0)
     .skip)))))))
 (.seq (.ops [⟨(some 21), none, .mv (.t 1)⟩,
   ⟨(some 4), none, .mv (.t 21)⟩])
 .ret))))⟩
def i123 : IFn := ⟨26, [],
 (.seq (.seq (.ops [⟨(some 4), none, .mv (.t 0)⟩,
   ⟨(some 5), none, .mv (.t 1)⟩,
   ⟨(some 6), none, .callf 92 [(.t 4), (.t 5)]⟩,
   ⟨(some 7), none, .mv (.t 6)⟩,
   ⟨(some 8), some (7, true), .mv (.t 0)⟩,
   ⟨(some 9), some (7, true), .nilchk (.t 8)⟩,
   ⟨(some 10), some (7, true), .fld 2 (.t 9)⟩,
   ⟨(some 11), some (7, true), .load1 (.t 10)⟩,
   ⟨(some 12), some (7, true), .bin .geq (.t 11) (.c (.int .i64 30))⟩,
   ⟨(some 13), none, .pick (.t 7) (.t 12) (.c (.bool false))⟩])
 (.cond (.t 13)
  (.ops [⟨(some 14), none, .mv (.t 0)⟩,
    ⟨(some 15), none, .callf 58 [(.t 14), (.c (.int .i64 6))]⟩])
  .skip))
 (.seq (.ops [⟨(some 16), none, .mv (.t 0)⟩,
   ⟨(some 17), none, .mv (.t 1)⟩,
   ⟨(some 18), none, .callf 95 [(.t 16), (.t 17)]⟩])
 (.ops [⟨(some 19), none, .mv (.t 0)⟩,
   ⟨(some 20), none, .nilchk (.t 19)⟩,
   ⟨(some 21), none, .fld 2 (.t 20)⟩,
   ⟨(some 22), none, .load1 (.t 21)⟩,
   ⟨(some 23), none, .bin .add (.t 22) (.c (.int .i64 1))⟩,
   ⟨(some 24), none, .nilchk (.t 19)⟩,
   ⟨(some 25), none, .fld 2 (.t 24)⟩,
   ⟨none, none, .store 1 (.t 25) (.t 23)⟩])))⟩
def i124 : IFn := ⟨103, [.cellN 15 2],
 (.seq (.ops [⟨(some 2), none, .alloc 114 [(.int .i64 0), (.int .i64 0), (.str []), (.int .i64 0), (.int .i64 0), .nils, .nils, (.bool false), (.str []), .nils, .nils, .nils, .nils, .nils, .nils]⟩])
 (.seq (.ops [⟨(some 4), none, .mv (.t 0)⟩,
   ⟨(some 5), none, .callf 93 [(.t 4)]⟩,
   ⟨(some 6), none, .build [(.int .i64 0), (.int .i64 0), (.str []), (.int .i64 0), (.int .i64 0), .nils, .nils, (.bool false), (.str []), .nils, .nils, .nils, .nils, .nils, .nils] [(1, 1, (.t 5))]⟩,
   ⟨(some 3), none, .alloc 114 [(.int .i64 0), (.int .i64 0), (.str []), (.int .i64 0), (.int .i64 0), .nils, .nils, (.bool false), (.str []), .nils, .nils, .nils, .nils, .nils, .nils]⟩,
   ⟨none, none, .store 15 (.t 3) (.t 6)⟩])
 (.seq (.block 0 (.seq (.ops [⟨(some 11), none, .mv (.t 0)⟩,
    ⟨(some 12), none, .nilchk (.t 11)⟩,
    ⟨(some 13), none, .fld 3 (.t 12)⟩,
    ⟨(some 14), none, .load1 (.t 13)⟩,
    ⟨(some 15), none, .bin .eql (.t 14) (.c (.int .i64 0))⟩,
    ⟨(some 16), none, .mv (.t 15)⟩,
    ⟨(some 17), some (16, true), .mv (.t 0)⟩,
    ⟨(some 18), some (16, true), .nilchk (.t 17)⟩,
    ⟨(some 19), some (16, true), .fld 0 (.t 18)⟩,
    ⟨(some 20), some (16, true), .load1 (.t 19)⟩,
    ⟨(some 21), some (16, true), .mv (.t 0)⟩,
    ⟨(some 22), some (16, true), .nilchk (.t 21)⟩,
    ⟨(some 23), some (16, true), .fld 1 (.t 22)⟩,
    ⟨(some 24), some (16, true), .load1 (.t 23)⟩,
    ⟨(some 25), some (16, true), .idx 3 (.t 20) (.t 24)⟩,
    ⟨(some 26), some (16, true), .fld 0 (.t 25)⟩,
    ⟨(some 27), some (16, true), .load1 (.t 26)⟩,
    ⟨(some 28), some (16, true), .bin .eql (.t 27) (.c (.int .i64 1))⟩,
    ⟨(some 29), none, .pick (.t 16) (.t 28) (.c (.bool false))⟩,
    ⟨(some 10), none, .mv (.t 29)⟩])
  (.cond (.t 10)
   (.ops [⟨(some 30), none, .mv (.t 0)⟩,
     ⟨(some 31), none, .loadN 15 (.t 3)⟩,
     ⟨(some 32), none, .callf 143 [(.t 30), (.t 31)]⟩,
     ⟨none, none, .store 15 (.t 3) (.t 32)⟩])
   (.seq (.ops [⟨(some 34), none, .mv (.t 0)⟩,
     ⟨(some 35), none, .callf 55 [(.t 34), (.c (.str [108, 101, 116]))]⟩,
     ⟨(some 33), none, .mv (.t 35)⟩])
   (.cond (.t 33)
    (.ops [⟨(some 36), none, .mv (.t 0)⟩,
      ⟨(some 37), none, .loadN 15 (.t 3)⟩,
      ⟨(some 38), none, .callf 144 [(.t 36), (.t 37)]⟩,
      ⟨none, none, .store 15 (.t 3) (.t 38)⟩])
    (.seq (.ops [⟨(some 40), none, .mv (.t 0)⟩,
      ⟨(some 41), none, .callf 55 [(.t 40), (.c (.str [99, 97, 108, 108]))]⟩,
      ⟨(some 39), none, .mv (.t 41)⟩])
    (.cond (.t 39)
     (.ops [⟨(some 42), none, .mv (.t 0)⟩,
       ⟨(some 43), none, .loadN 15 (.t 3)⟩,
       ⟨(some 44), none, .callf 145 [(.t 42), (.t 43)]⟩,
       ⟨none, none, .store 15 (.t 3) (.t 44)⟩])
     (.seq (.ops [⟨(some 46), none, .mv (.t 0)⟩,
       ⟨(some 47), none, .callf 55 [(.t 46), (.c (.str [105, 102]))]⟩,
       ⟨(some 45), none, .mv (.t 47)⟩])
     (.cond (.t 45)
      (.seq (.ops [⟨(some 48), none, .fld 0 (.t 3)⟩,
        ⟨none, none, .store 1 (.t 48) (.c (.int .i64 6))⟩])
      (.seq (.ops [⟨(some 49), none, .mv (.t 0)⟩,
        ⟨(some 50), none, .callf 121 [(.t 49), (.c .nils)]⟩,
        ⟨(some 51), none, .fld 10 (.t 3)⟩,
        ⟨none, none, .store 1 (.t 51) (.t 50)⟩])
      (.seq (.ops [⟨(some 52), none, .mv (.t 0)⟩,
        ⟨(some 53), none, .callf 101 [(.t 52)]⟩,
        ⟨(some 54), none, .fld 13 (.t 3)⟩,
        ⟨none, none, .store 1 (.t 54) (.t 53)⟩])
      (.seq (.seq (.ops [⟨(some 55), none, .mv (.t 0)⟩,
        ⟨(some 56), none, .callf 55 [(.t 55), (.c (.str [101, 108, 115, 101]))]⟩])
      (.cond (.t 56)
       (.ops [⟨(some 57), none, .mv (.t 0)⟩,
         ⟨(some 58), none, .callf 101 [(.t 57)]⟩,
         ⟨(some 59), none, .fld 14 (.t 3)⟩,
         ⟨none, none, .store 1 (.t 59) (.t 58)⟩])
       .skip))
      (.seq (.ops [⟨(some 60), none, .loadN 15 (.t 3)⟩,
        ⟨none, none, .store 15 (.t 2) (.t 60)⟩])
      .ret)))))
      (.seq (.ops [⟨(some 62), none, .mv (.t 0)⟩,
        ⟨(some 63), none, .callf 55 [(.t 62), (.c (.str [119, 104, 105, 108, 101]))]⟩,
        ⟨(some 61), none, .mv (.t 63)⟩])
      (.cond (.t 61)
       (.seq (.ops [⟨(some 64), none, .mv (.t 0)⟩,
         ⟨(some 65), none, .loadN 15 (.t 3)⟩,
         ⟨(some 66), none, .callf 146 [(.t 64), (.t 65)]⟩,
         ⟨none, none, .store 15 (.t 2) (.t 66)⟩])
       .ret)
       (.seq (.ops [⟨(some 68), none, .mv (.t 0)⟩,
         ⟨(some 69), none, .callf 55 [(.t 68), (.c (.str [98, 114, 101, 97, 107]))]⟩,
         ⟨(some 67), none, .mv (.t 69)⟩])
       (.cond (.t 67)
        (.ops [⟨(some 70), none, .fld 0 (.t 3)⟩,
          ⟨none, none, .store 1 (.t 70) (.c (.int .i64 8))⟩])
        (.seq (.ops [⟨(some 72), none, .mv (.t 0)⟩,
          ⟨(some 73), none, .callf 55 [(.t 72), (.c (.str [99, 111, 110, 116, 105, 110, 117, 101]))]⟩,
          ⟨(some 71), none, .mv (.t 73)⟩])
        (.cond (.t 71)
         (.ops [⟨(some 74), none, .fld 0 (.t 3)⟩,
           ⟨none, none, .store 1 (.t 74) (.c (.int .i64 9))⟩])
         (.seq (.ops [⟨(some 76), none, .mv (.t 0)⟩,
           ⟨(some 77), none, .callf 55 [(.t 76), (.c (.str [114, 101, 116, 117, 114, 110]))]⟩,
           ⟨(some 75), none, .mv (.t 77)⟩])
         (.cond (.t 75)
          (.seq (.ops [⟨(some 78), none, .fld 0 (.t 3)⟩,
            ⟨none, none, .store 1 (.t 78) (.c (.int .i64 10))⟩])
          (.seq (.ops [⟨(some 79), none, .mv (.t 0)⟩,
            ⟨(some 80), none, .callf 92 [(.t 79), (.c (.str [59]))]⟩,
            ⟨(some 81), none, .not (.t 80)⟩])
          (.cond (.t 81)
           (.seq (.ops [⟨(some 82), none, .fld 7 (.t 3)⟩,
             ⟨none, none, .store 1 (.t 82) (.c (.bool true))⟩])
           (.ops [⟨(some 83), none, .mv (.t 0)⟩,
             ⟨(some 84), none, .callf 147 [(.t 83), (.c .nils)]⟩,
             ⟨(some 85), none, .fld 6 (.t 3)⟩,
             ⟨none, none, .store 1 (.t 85) (.t 84)⟩]))
           .skip)))
          (.seq (.ops [⟨(some 87), none, .mv (.t 0)⟩,
            ⟨(some 88), none, .callf 55 [(.t 87), (.c (.str [97, 115, 115, 101, 114, 116]))]⟩,
            ⟨(some 86), none, .mv (.t 88)⟩])
          (.cond (.t 86)
           (.seq (.ops [⟨(some 89), none, .fld 0 (.t 3)⟩,
             ⟨none, none, .store 1 (.t 89) (.c (.int .i64 11))⟩])
           (.ops [⟨(some 90), none, .mv (.t 0)⟩,
             ⟨(some 91), none, .callf 121 [(.t 90), (.c .nils)]⟩,
             ⟨(some 92), none, .fld 10 (.t 3)⟩,
             ⟨none, none, .store 1 (.t 92) (.t 91)⟩]))
           (.seq (.ops [⟨(some 94), none, .mv (.t 0)⟩,
             ⟨(some 95), none, .callf 55 [(.t 94), (.c (.str [105, 110, 112, 117, 116]))]⟩,
             ⟨(some 93), none, .mv (.t 95)⟩])
           (.cond (.t 93)
            (.seq (.ops [⟨(some 96), none, .fld 0 (.t 3)⟩,
              ⟨none, none, .store 1 (.t 96) (.c (.int .i64 12))⟩])
            (.ops [⟨(some 97), none, .mv (.t 0)⟩,
              ⟨(some 98), none, .callf 94 [(.t 97)]⟩,
              ⟨(some 99), none, .fld 2 (.t 3)⟩,
              ⟨none, none, .store 1 (.t 99) (.t 98)⟩]))
            (.seq (.ops [⟨(some 7), none, .mv (.t 0)⟩,
              ⟨(some 8), none, .callf 58 [(.t 7), (.c (.int .i64 5))]⟩])
            (.seq (.ops [⟨(some 9), none, .loadN 15 (.t 3)⟩,
              ⟨none, none, .store 15 (.t 2) (.t 9)⟩])
            .ret)))))))))))))))))))))))
 (.seq (.ops [⟨(some 100), none, .mv (.t 0)⟩,
   ⟨(some 101), none, .callf 95 [(.t 100), (.c (.str [59]))]⟩])
 (.seq (.ops [⟨(some 102), none, .loadN 15 (.t 3)⟩,
   ⟨none, none, .store 15 (.t 2) (.t 102)⟩])
 .ret)))))⟩
def i129 : IFn := ⟨13, [.tmp 2],
 (.seq (.ops [⟨(some 2), none, .mv (.c (.bool false))⟩])
 (.seq (.ops [⟨(some 3), none, .mv (.t 0)⟩,
   ⟨(some 4), none, .bin .eql (.t 3) (.c (.int .i64 1))⟩,
   ⟨(some 5), none, .mv (.t 4)⟩,
   ⟨(some 6), some (5, false), .mv (.t 0)⟩,
   ⟨(some 7), some (5, false), .bin .eql (.t 6) (.c (.int .i64 3))⟩,
   ⟨(some 8), none, .pick (.t 5) (.c (.bool true)) (.t 7)⟩,
   ⟨(some 9), none, .mv (.t 8)⟩,
   ⟨(some 10), some (9, false), .mv (.t 0)⟩,
   ⟨(some 11), some (9, false), .bin .eql (.t 10) (.c (.int .i64 5))⟩,
   ⟨(some 12), none, .pick (.t 9) (.c (.bool true)) (.t 11)⟩,
   ⟨(some 2), none, .mv (.t 12)⟩])
 .ret))⟩
def i130 : IFn := ⟨30, [],
 (.seq (.ops [⟨(some 5), none, .box 133 (.t 2)⟩])
 (.seq (.ops [⟨(some 9), none, .mv (.t 1)⟩,
   ⟨(some 10), none, .callf 151 [(.t 9)]⟩,
   ⟨(some 6), none, .mv (.t 10)⟩])
 (.seq (.ops [⟨(some 11), none, .mv (.t 1)⟩,
   ⟨(some 12), none, .len (.t 11)⟩,
   ⟨(some 13), none, .mv (.c (.int .i64 0))⟩])
 (.block 0 (.loop (.seq (.ops [⟨(some 14), none, .bin .lss (.t 13) (.t 12)⟩])
   (.seq (.cond (.t 14)
    .skip
    (.exit 0))
   (.seq (.block 1 (.seq (.ops [⟨(some 15), none, .mv (.t 13)⟩,
      ⟨(some 16), none, .idx 7 (.t 11) (.t 13)⟩,
      ⟨(some 17), none, .loadN 7 (.t 16)⟩,
      ⟨(some 8), none, .alloc 95 [(.int .i64 0), (.int .i64 0), (.int .i64 0), (.str []), (.int .i64 0), (.int .i64 0), (.int .i64 0)]⟩,
      ⟨(some 7), none, .mv (.t 15)⟩,
      ⟨none, none, .store 7 (.t 8) (.t 17)⟩])
    (.ops [⟨(some 18), none, .mv (.t 0)⟩,
      ⟨(some 19), none, .mv (.t 0)⟩,
      ⟨(some 20), none, .mv (.t 1)⟩,
      ⟨(some 21), none, .loadN 7 (.t 8)⟩,
      ⟨(some 22), none, .mv (.t 6)⟩,
      ⟨(some 23), none, .mv (.t 7)⟩,
      ⟨(some 24), none, .idx 1 (.t 22) (.t 23)⟩,
      ⟨(some 25), none, .load1 (.t 24)⟩,
      ⟨(some 26), none, .loadN 3 (.t 5)⟩,
      ⟨(some 27), none, .callf 152 [(.t 19), (.t 20), (.t 21), (.t 25), (.t 26)]⟩,
      ⟨(some 28), none, .callf 68 [(.t 18), (.t 27)]⟩])))
   (.ops [⟨(some 29), none, .bin .add (.t 13) (.c (.int .i64 1))⟩,
     ⟨(some 13), none, .mv (.t 29)⟩])))))))))⟩
def i132 : IFn := ⟨94, [],
 (.seq (.ops [⟨(some 3), none, .box 114 (.t 1)⟩])
 (.seq (.ops [⟨(some 7), none, .mv (.t 0)⟩,
   ⟨(some 8), none, .fld 2 (.t 3)⟩,
   ⟨(some 9), none, .load1 (.t 8)⟩,
   ⟨(some 10), none, .callf 75 [(.t 7), (.t 9)]⟩,
   ⟨(some 6), none, .mv (.t 10)⟩,
   ⟨(some 11), none, .ext 0 (.t 6)⟩,
   ⟨(some 12), none, .ext 1 (.t 6)⟩,
   ⟨(some 4), none, .alloc 130 [(.str []), (.int .i64 0), (.int .i64 0), (.bool false), (.bool false), (.int .i64 0)]⟩,
   ⟨none, none, .store 6 (.t 4) (.t 11)⟩,
   ⟨(some 5), none, .mv (.t 12)⟩])
 (.seq (.seq (.ops [⟨(some 13), none, .mv (.t 5)⟩,
   ⟨(some 14), none, .mv (.t 13)⟩,
   ⟨(some 15), some (14, true), .fld 3 (.t 4)⟩,
   ⟨(some 16), some (14, true), .load1 (.t 15)⟩,
   ⟨(some 17), some (14, true), .mv (.t 16)⟩,
   ⟨(some 18), some (17, false), .fld 4 (.t 4)⟩,
   ⟨(some 19), some (17, false), .load1 (.t 18)⟩,
   ⟨(some 20), some (14, true), .pick (.t 17) (.c (.bool true)) (.t 19)⟩,
   ⟨(some 21), none, .pick (.t 14) (.t 20) (.c (.bool false))⟩,
   ⟨(some 22), none, .mv (.t 21)⟩,
   ⟨(some 23), some (22, false), .mv (.t 0)⟩,
   ⟨(some 24), some (22, false), .nilchk (.t 23)⟩,
   ⟨(some 25), some (22, false), .fld 12 (.t 24)⟩,
   ⟨(some 26), some (22, false), .load1 (.t 25)⟩,
   ⟨(some 27), some (22, false), .fld 2 (.t 3)⟩,
   ⟨(some 28), some (22, false), .load1 (.t 27)⟩,
   ⟨(some 29), some (22, false), .callf 67 [(.t 26), (.t 28)]⟩,
   ⟨(some 30), none, .pick (.t 22) (.c (.bool true)) (.t 29)⟩])
 (.cond (.t 30)
  (.ops [⟨(some 31), none, .mv (.t 0)⟩,
    ⟨(some 32), none, .fld 1 (.t 3)⟩,
    ⟨(some 33), none, .load1 (.t 32)⟩,
    ⟨(some 34), none, .fld 2 (.t 3)⟩,
    ⟨(some 35), none, .load1 (.t 34)⟩,
    ⟨(some 36), none, .callf 69 [(.c (.str [108, 101, 116])), (.t 33), (.c (.int .i64 1)), (.t 35)]⟩,
    ⟨(some 37), none, .callf 68 [(.t 31), (.t 36)]⟩])
  .skip))
 (.seq (.seq (.ops [⟨(some 38), none, .fld 0 (.t 3)⟩,
   ⟨(some 39), none, .load1 (.t 38)⟩,
   ⟨(some 40), none, .bin .eql (.t 39) (.c (.int .i64 2))⟩,
   ⟨(some 41), none, .mv (.t 40)⟩,
   ⟨(some 42), some (41, true), .fld 4 (.t 3)⟩,
   ⟨(some 43), some (41, true), .load1 (.t 42)⟩,
   ⟨(some 44), some (41, true), .callf 71 [(.t 43)]⟩,
   ⟨(some 45), some (41, true), .not (.t 44)⟩,
   ⟨(some 46), none, .pick (.t 41) (.t 45) (.c (.bool false))⟩])
 (.cond (.t 46)
  (.ops [⟨(some 47), none, .mv (.t 0)⟩,
    ⟨(some 48), none, .fld 1 (.t 3)⟩,
    ⟨(some 49), none, .load1 (.t 48)⟩,
    ⟨(some 50), none, .fld 2 (.t 3)⟩,
    ⟨(some 51), none, .load1 (.t 50)⟩,
    ⟨(some 52), none, .callf 69 [(.c (.str [108, 101, 116])), (.t 49), (.c (.int .i64 4)), (.t 51)]⟩,
    ⟨(some 53), none, .callf 68 [(.t 47), (.t 52)]⟩])
  .skip))
 (.seq (.ops [⟨(some 54), none, .mv (.t 0)⟩,
   ⟨(some 55), none, .mv (.t 0)⟩,
   ⟨(some 56), none, .nilchk (.t 55)⟩,
   ⟨(some 57), none, .fld 12 (.t 56)⟩,
   ⟨(some 58), none, .load1 (.t 57)⟩,
   ⟨(some 59), none, .fld 2 (.t 3)⟩,
   ⟨(some 60), none, .load1 (.t 59)⟩,
   ⟨(some 61), none, .bslice 9 1 1 [(.str [])] [(0, 1, (.t 60))]⟩,
   ⟨(some 62), none, .append 9 1 16 (.t 58) (.t 61)⟩,
   ⟨(some 63), none, .nilchk (.t 54)⟩,
   ⟨(some 64), none, .fld 12 (.t 63)⟩,
   ⟨none, none, .store 1 (.t 64) (.t 62)⟩])
 (.seq (.ops [⟨(some 65), none, .fld 2 (.t 3)⟩,
   ⟨(some 66), none, .load1 (.t 65)⟩,
   ⟨(some 67), none, .fld 3 (.t 3)⟩,
   ⟨(some 68), none, .load1 (.t 67)⟩,
   ⟨(some 69), none, .fld 4 (.t 3)⟩,
   ⟨(some 70), none, .load1 (.t 69)⟩,
   ⟨(some 71), none, .mv (.t 0)⟩,
   ⟨(some 72), none, .nilchk (.t 71)⟩,
   ⟨(some 73), none, .fld 13 (.t 72)⟩,
   ⟨(some 74), none, .load1 (.t 73)⟩,
   ⟨(some 75), none, .len (.t 74)⟩,
   ⟨(some 76), none, .build [(.str []), (.int .i64 0), (.int .i64 0), (.bool false), (.bool false), (.int .i64 0)] [(0, 1, (.t 66)), (1, 1, (.t 68)), (2, 1, (.t 70)), (5, 1, (.t 75))]⟩,
   ⟨none, none, .store 6 (.t 4) (.t 76)⟩])
 (.seq (.seq (.ops [⟨(some 77), none, .fld 0 (.t 3)⟩,
   ⟨(some 78), none, .load1 (.t 77)⟩,
   ⟨(some 79), none, .bin .eql (.t 78) (.c (.int .i64 2))⟩])
 (.cond (.t 79)
  (.ops [⟨(some 80), none, .fld 4 (.t 3)⟩,
    ⟨(some 81), none, .load1 (.t 80)⟩,
    ⟨(some 82), none, .mx (.c (.int .i64 1)) [(.t 81)]⟩,
    ⟨(some 83), none, .fld 2 (.t 4)⟩,
    ⟨none, none, .store 1 (.t 83) (.t 82)⟩])
  .skip))
 (.ops [⟨(some 84), none, .mv (.t 0)⟩,
   ⟨(some 85), none, .mv (.t 0)⟩,
   ⟨(some 86), none, .nilchk (.t 85)⟩,
   ⟨(some 87), none, .fld 11 (.t 86)⟩,
   ⟨(some 88), none, .load1 (.t 87)⟩,
   ⟨(some 89), none, .loadN 6 (.t 4)⟩,
   ⟨(some 90), none, .bslice 130 6 1 [(.str []), (.int .i64 0), (.int .i64 0), (.bool false), (.bool false), (.int .i64 0)] [(0, 6, (.t 89))]⟩,
   ⟨(some 91), none, .append 130 6 48 (.t 88) (.t 90)⟩,
   ⟨(some 92), none, .nilchk (.t 84)⟩,
   ⟨(some 93), none, .fld 11 (.t 92)⟩,
   ⟨none, none, .store 1 (.t 93) (.t 91)⟩]))))))))⟩
def i133 : IFn := ⟨31, [],
 (.seq (.ops [⟨(some 9), none, .mv (.t 0)⟩,
   ⟨(some 10), none, .mv (.t 2)⟩,
   ⟨(some 11), none, .callf 75 [(.t 9), (.t 10)]⟩,
   ⟨(some 8), none, .mv (.t 11)⟩,
   ⟨(some 12), none, .ext 0 (.t 8)⟩,
   ⟨(some 13), none, .ext 1 (.t 8)⟩,
   ⟨(some 6), none, .alloc 130 [(.str []), (.int .i64 0), (.int .i64 0), (.bool false), (.bool false), (.int .i64 0)]⟩,
   ⟨none, none, .store 6 (.t 6) (.t 12)⟩,
   ⟨(some 7), none, .mv (.t 13)⟩])
 (.block 0 (.seq (.ops [⟨(some 15), none, .mv (.t 7)⟩,
    ⟨(some 16), none, .not (.t 15)⟩,
    ⟨(some 14), none, .mv (.t 16)⟩])
  (.cond (.t 14)
   (.ops [⟨(some 17), none, .mv (.t 0)⟩,
     ⟨(some 18), none, .mv (.t 1)⟩,
     ⟨(some 19), none, .mv (.t 2)⟩,
     ⟨(some 20), none, .callf 69 [(.c (.str [115, 101, 116])), (.t 18), (.c (.int .i64 2)), (.t 19)]⟩,
     ⟨(some 21), none, .callf 68 [(.t 17), (.t 20)]⟩])
   (.seq (.ops [⟨(some 23), none, .fld 2 (.t 6)⟩,
     ⟨(some 24), none, .load1 (.t 23)⟩,
     ⟨(some 25), none, .bin .gtr (.t 24) (.c (.int .i64 0))⟩,
     ⟨(some 22), none, .mv (.t 25)⟩])
   (.cond (.t 22)
    (.ops [⟨(some 26), none, .mv (.t 0)⟩,
      ⟨(some 27), none, .mv (.t 1)⟩,
      ⟨(some 28), none, .mv (.t 2)⟩,
      ⟨(some 29), none, .callf 69 [(.c (.str [115, 101, 116])), (.t 27), (.c (.int .i64 3)), (.t 28)]⟩,
      ⟨(some 30), none, .callf 68 [(.t 26), (.t 29)]⟩])
    .skip))))))⟩
def i134 : IFn := ⟨75, [],
 (.seq (.ops [⟨(some 11), none, .mv (.t 0)⟩,
   ⟨(some 12), none, .mv (.t 2)⟩,
   ⟨(some 13), none, .callf 75 [(.t 11), (.t 12)]⟩,
   ⟨(some 10), none, .mv (.t 13)⟩,
   ⟨(some 14), none, .ext 0 (.t 10)⟩,
   ⟨(some 15), none, .ext 1 (.t 10)⟩,
   ⟨(some 6), none, .alloc 130 [(.str []), (.int .i64 0), (.int .i64 0), (.bool false), (.bool false), (.int .i64 0)]⟩,
   ⟨none, none, .store 6 (.t 6) (.t 14)⟩,
   ⟨(some 7), none, .mv (.t 15)⟩])
 (.seq (.seq (.ops [⟨(some 16), none, .mv (.t 7)⟩,
   ⟨(some 17), none, .not (.t 16)⟩])
 (.cond (.t 17)
  .ret
  .skip))
 (.seq (.seq (.ops [⟨(some 18), none, .fld 3 (.t 6)⟩,
   ⟨(some 19), none, .load1 (.t 18)⟩,
   ⟨(some 20), none, .mv (.t 19)⟩,
   ⟨(some 21), some (20, false), .fld 4 (.t 6)⟩,
   ⟨(some 22), some (20, false), .load1 (.t 21)⟩,
   ⟨(some 23), some (20, false), .mv (.t 22)⟩,
   ⟨(some 24), some (23, true), .fld 2 (.t 6)⟩,
   ⟨(some 25), some (23, true), .load1 (.t 24)⟩,
   ⟨(some 26), some (23, true), .bin .gtr (.t 25) (.c (.int .i64 0))⟩,
   ⟨(some 27), some (20, false), .pick (.t 23) (.t 26) (.c (.bool false))⟩,
   ⟨(some 28), none, .pick (.t 20) (.c (.bool true)) (.t 27)⟩,
   ⟨(some 29), none, .mv (.t 28)⟩,
   ⟨(some 30), some (29, true), .mv (.t 0)⟩,
   ⟨(some 31), some (29, true), .nilchk (.t 30)⟩,
   ⟨(some 32), some (29, true), .fld 2 (.t 31)⟩,
   ⟨(some 33), some (29, true), .fld 6 (.t 32)⟩,
   ⟨(some 34), some (29, true), .load1 (.t 33)⟩,
   ⟨(some 35), some (29, true), .mv (.t 2)⟩,
   ⟨(some 36), some (29, true), .callf 67 [(.t 34), (.t 35)]⟩,
   ⟨(some 37), some (29, true), .not (.t 36)⟩,
   ⟨(some 38), none, .pick (.t 29) (.t 37) (.c (.bool false))⟩])
 (.cond (.t 38)
  (.ops [⟨(some 39), none, .mv (.t 0)⟩,
    ⟨(some 40), none, .mv (.t 1)⟩,
    ⟨(some 41), none, .mv (.t 2)⟩,
    ⟨(some 42), none, .callf 69 [(.c (.str [119, 114, 105, 116, 101])), (.t 40), (.c (.int .i64 10)), (.t 41)]⟩,
    ⟨(some 43), none, .callf 68 [(.t 39), (.t 42)]⟩])
  .skip))
 (.seq (.ops [⟨(some 44), none, .mv (.t 0)⟩,
   ⟨(some 45), none, .nilchk (.t 44)⟩,
   ⟨(some 46), none, .fld 13 (.t 45)⟩,
   ⟨(some 47), none, .load1 (.t 46)⟩,
   ⟨(some 48), none, .len (.t 47)⟩,
   ⟨(some 49), none, .mv (.c (.int .i64 0))⟩])
 (.block 0 (.loop (.seq (.ops [⟨(some 50), none, .bin .lss (.t 49) (.t 48)⟩])
   (.seq (.cond (.t 50)
    .skip
    (.exit 0))
   (.seq (.block 1 (.seq (.ops [⟨(some 51), none, .mv (.t 49)⟩,
      ⟨(some 52), none, .idx 2 (.t 47) (.t 49)⟩,
      ⟨(some 53), none, .loadN 2 (.t 52)⟩,
      ⟨(some 9), none, .alloc 212 [(.bool false), .nils]⟩,
      ⟨(some 8), none, .mv (.t 51)⟩,
      ⟨none, none, .store 2 (.t 9) (.t 53)⟩])
    (.seq (.ops [⟨(some 54), none, .fld 0 (.t 9)⟩,
      ⟨(some 55), none, .load1 (.t 54)⟩,
      ⟨(some 56), none, .mv (.t 55)⟩,
      ⟨(some 57), some (56, true), .fld 5 (.t 6)⟩,
      ⟨(some 58), some (56, true), .load1 (.t 57)⟩,
      ⟨(some 59), some (56, true), .mv (.t 8)⟩,
      ⟨(some 60), some (56, true), .bin .leq (.t 58) (.t 59)⟩,
      ⟨(some 61), none, .pick (.t 56) (.t 60) (.c (.bool false))⟩,
      ⟨(some 62), none, .mv (.t 61)⟩,
      ⟨(some 63), some (62, true), .fld 1 (.t 9)⟩,
      ⟨(some 64), some (62, true), .load1 (.t 63)⟩,
      ⟨(some 65), some (62, true), .mv (.t 2)⟩,
      ⟨(some 66), some (62, true), .callf 67 [(.t 64), (.t 65)]⟩,
      ⟨(some 67), some (62, true), .not (.t 66)⟩,
      ⟨(some 68), none, .pick (.t 62) (.t 67) (.c (.bool false))⟩])
    (.cond (.t 68)
     (.ops [⟨(some 69), none, .mv (.t 0)⟩,
       ⟨(some 70), none, .mv (.t 1)⟩,
       ⟨(some 71), none, .mv (.t 2)⟩,
       ⟨(some 72), none, .callf 69 [(.c (.str [119, 114, 105, 116, 101])), (.t 70), (.c (.int .i64 10)), (.t 71)]⟩,
       ⟨(some 73), none, .callf 68 [(.t 69), (.t 72)]⟩])
     .skip))))
   (.ops [⟨(some 74), none, .bin .add (.t 49) (.c (.int .i64 1))⟩,
     ⟨(some 49), none, .mv (.t 74)⟩]))))))))))⟩
def i135 : IFn := ⟨156, [],
 (.seq (.ops [⟨(some 3), none, .box 114 (.t 1)⟩])
 (.seq (.ops [⟨(some 15), none, .mv (.t 0)⟩,
   ⟨(some 16), none, .nilchk (.t 15)⟩,
   ⟨(some 17), none, .fld 0 (.t 16)⟩,
   ⟨(some 18), none, .loadN 2 (.t 17)⟩,
   ⟨(some 19), none, .fld 8 (.t 3)⟩,
   ⟨(some 20), none, .load1 (.t 19)⟩,
   ⟨(some 4), none, .alloc 40 [(.str []), (.int .i64 0), .nils, (.int .i64 0), .nils, .nils, .nils, .nils]⟩,
   ⟨(some 21), none, .callf 153 [(.t 18), (.t 20)]⟩,
   ⟨none, none, .again 4 (.alloc 40 [(.str []), (.int .i64 0), .nils, (.int .i64 0), .nils, .nils, .nils, .nils])⟩,
   ⟨(some 14), none, .mv (.t 21)⟩,
   ⟨(some 22), none, .ext 0 (.t 14)⟩,
   ⟨(some 23), none, .ext 1 (.t 14)⟩,
   ⟨none, none, .store 8 (.t 4) (.t 22)⟩,
   ⟨(some 5), none, .mv (.t 23)⟩])
 (.seq (.seq (.ops [⟨(some 24), none, .fld 9 (.t 3)⟩,
   ⟨(some 25), none, .load1 (.t 24)⟩,
   ⟨(some 26), none, .len (.t 25)⟩,
   ⟨(some 27), none, .mv (.c (.int .i64 0))⟩])
 (.block 0 (.loop (.seq (.ops [⟨(some 28), none, .bin .lss (.t 27) (.t 26)⟩])
   (.seq (.cond (.t 28)
    .skip
    (.exit 0))
   (.seq (.block 1 (.seq (.ops [⟨(some 29), none, .mv (.t 27)⟩,
      ⟨(some 30), none, .idx 1 (.t 25) (.t 27)⟩,
      ⟨(some 31), none, .load1 (.t 30)⟩,
      ⟨(some 6), none, .mv (.t 29)⟩,
      ⟨(some 7), none, .mv (.t 31)⟩])
    (.ops [⟨(some 32), none, .mv (.t 0)⟩,
      ⟨(some 33), none, .mv (.t 7)⟩,
      ⟨(some 34), none, .mv (.t 5)⟩,
      ⟨(some 35), none, .mv (.t 34)⟩,
      ⟨(some 36), some (35, true), .mv (.t 6)⟩,
      ⟨(some 37), some (35, true), .fld 2 (.t 4)⟩,
      ⟨(some 38), some (35, true), .load1 (.t 37)⟩,
      ⟨(some 39), some (35, true), .len (.t 38)⟩,
      ⟨(some 40), some (35, true), .bin .lss (.t 36) (.t 39)⟩,
      ⟨(some 41), none, .pick (.t 35) (.t 40) (.c (.bool false))⟩,
      ⟨(some 42), none, .mv (.t 41)⟩,
      ⟨(some 43), some (42, true), .fld 2 (.t 4)⟩,
      ⟨(some 44), some (42, true), .load1 (.t 43)⟩,
      ⟨(some 45), some (42, true), .mv (.t 6)⟩,
      ⟨(some 46), some (42, true), .idx 4 (.t 44) (.t 45)⟩,
      ⟨(some 47), some (42, true), .fld 2 (.t 46)⟩,
      ⟨(some 48), some (42, true), .load1 (.t 47)⟩,
      ⟨(some 49), some (42, true), .bin .gtr (.t 48) (.c (.int .i64 0))⟩,
      ⟨(some 50), none, .pick (.t 42) (.t 49) (.c (.bool false))⟩,
      ⟨(some 51), none, .build [(.bool false), (.bool false), (.bool false)] [(2, 1, (.t 50))]⟩,
      ⟨(some 52), none, .callf 130 [(.t 32), (.t 33), (.t 51)]⟩])))
   (.ops [⟨(some 53), none, .bin .add (.t 27) (.c (.int .i64 1))⟩,
     ⟨(some 27), none, .mv (.t 53)⟩])))))))
 (.seq (.block 2 (.seq (.ops [⟨(some 55), none, .mv (.t 5)⟩,
    ⟨(some 56), none, .not (.t 55)⟩,
    ⟨(some 54), none, .mv (.t 56)⟩])
  (.cond (.t 54)
   (.ops [⟨(some 57), none, .mv (.t 0)⟩,
     ⟨(some 58), none, .fld 1 (.t 3)⟩,
     ⟨(some 59), none, .load1 (.t 58)⟩,
     ⟨(some 60), none, .fld 8 (.t 3)⟩,
     ⟨(some 61), none, .load1 (.t 60)⟩,
     ⟨(some 62), none, .callf 69 [(.c (.str [99, 97, 108, 108])), (.t 59), (.c (.int .i64 2)), (.t 61)]⟩,
     ⟨(some 63), none, .callf 68 [(.t 57), (.t 62)]⟩])
   (.seq (.ops [⟨(some 65), none, .mv (.t 0)⟩,
     ⟨(some 66), none, .loadN 15 (.t 3)⟩,
     ⟨(some 67), none, .loadN 8 (.t 4)⟩,
     ⟨(some 68), none, .callf 154 [(.t 65), (.t 66), (.t 67)]⟩,
     ⟨(some 69), none, .not (.t 68)⟩,
     ⟨(some 64), none, .mv (.t 69)⟩])
   (.cond (.t 64)
    (.ops [⟨(some 70), none, .mv (.t 0)⟩,
      ⟨(some 71), none, .fld 1 (.t 3)⟩,
      ⟨(some 72), none, .load1 (.t 71)⟩,
      ⟨(some 73), none, .fld 8 (.t 3)⟩,
      ⟨(some 74), none, .load1 (.t 73)⟩,
      ⟨(some 75), none, .callf 69 [(.c (.str [99, 97, 108, 108])), (.t 72), (.c (.int .i64 8)), (.t 74)]⟩,
      ⟨(some 76), none, .callf 68 [(.t 70), (.t 75)]⟩])
    .skip)))))
 (.seq (.seq (.ops [⟨(some 77), none, .fld 7 (.t 3)⟩,
   ⟨(some 78), none, .load1 (.t 77)⟩])
 (.cond (.t 78)
  (.seq (.ops [⟨(some 79), none, .mv (.t 0)⟩,
    ⟨(some 80), none, .fld 1 (.t 3)⟩,
    ⟨(some 81), none, .load1 (.t 80)⟩,
    ⟨(some 82), none, .fld 2 (.t 3)⟩,
    ⟨(some 83), none, .load1 (.t 82)⟩,
    ⟨(some 84), none, .callf 133 [(.t 79), (.t 81), (.t 83)]⟩])
  (.ops [⟨(some 85), none, .mv (.t 0)⟩,
    ⟨(some 86), none, .fld 1 (.t 3)⟩,
    ⟨(some 87), none, .load1 (.t 86)⟩,
    ⟨(some 88), none, .fld 2 (.t 3)⟩,
    ⟨(some 89), none, .load1 (.t 88)⟩,
    ⟨(some 90), none, .callf 134 [(.t 85), (.t 87), (.t 89)]⟩]))
  .skip))
 (.seq (.ops [⟨(some 91), none, .fld 6 (.t 4)⟩,
   ⟨(some 92), none, .load1 (.t 91)⟩,
   ⟨(some 93), none, .len (.t 92)⟩,
   ⟨(some 94), none, .mv (.c (.int .i64 0))⟩])
 (.block 3 (.loop (.seq (.ops [⟨(some 95), none, .bin .lss (.t 94) (.t 93)⟩])
   (.seq (.cond (.t 95)
    .skip
    (.exit 3))
   (.seq (.block 4 (.seq (.ops [⟨(some 96), none, .idx 1 (.t 92) (.t 94)⟩,
      ⟨(some 97), none, .load1 (.t 96)⟩,
      ⟨(some 9), none, .alloc 9 [(.str [])]⟩,
      ⟨none, none, .store 1 (.t 9) (.t 97)⟩])
    (.seq (.ops [⟨(some 10), none, .mv (.c (.int .i64 (-1)))⟩])
    (.seq (.seq (.ops [⟨(some 98), none, .fld 2 (.t 4)⟩,
      ⟨(some 99), none, .load1 (.t 98)⟩,
      ⟨(some 100), none, .len (.t 99)⟩,
      ⟨(some 101), none, .mv (.c (.int .i64 0))⟩])
    (.block 5 (.loop (.seq (.ops [⟨(some 102), none, .bin .lss (.t 101) (.t 100)⟩])
      (.seq (.cond (.t 102)
       .skip
       (.exit 5))
      (.seq (.block 6 (.seq (.ops [⟨(some 103), none, .mv (.t 101)⟩,
         ⟨(some 104), none, .idx 4 (.t 99) (.t 101)⟩,
         ⟨(some 105), none, .loadN 4 (.t 104)⟩,
         ⟨(some 12), none, .alloc 77 [(.str []), (.int .i64 0), (.int .i64 0), (.int .i64 0)]⟩,
         ⟨(some 11), none, .mv (.t 103)⟩,
         ⟨none, none, .store 4 (.t 12) (.t 105)⟩])
       (.seq (.ops [⟨(some 106), none, .fld 0 (.t 12)⟩,
         ⟨(some 107), none, .load1 (.t 106)⟩,
         ⟨(some 108), none, .load1 (.t 9)⟩,
         ⟨(some 109), none, .bin .eql (.t 107) (.t 108)⟩,
         ⟨(some 110), none, .mv (.t 109)⟩,
         ⟨(some 111), some (110, true), .fld 2 (.t 12)⟩,
         ⟨(some 112), some (110, true), .load1 (.t 111)⟩,
         ⟨(some 113), some (110, true), .bin .gtr (.t 112) (.c (.int .i64 0))⟩,
         ⟨(some 114), none, .pick (.t 110) (.t 113) (.c (.bool false))⟩])
       (.cond (.t 114)
        (.ops [⟨(some 115), none, .mv (.t 11)⟩,
          ⟨(some 10), none, .mv (.t 115)⟩])
        .skip))))
      (.ops [⟨(some 116), none, .bin .add (.t 101) (.c (.int .i64 1))⟩,
        ⟨(some 101), none, .mv (.t 116)⟩])))))))
    (.seq (.ops [⟨(some 117), none, .mv (.t 0)⟩,
      ⟨(some 118), none, .nilchk (.t 117)⟩,
      ⟨(some 119), none, .fld 0 (.t 118)⟩,
      ⟨(some 120), none, .fld 0 (.t 119)⟩,
      ⟨(some 121), none, .load1 (.t 120)⟩,
      ⟨(some 122), none, .mkf 156 [] [(.t 9)]⟩,
      ⟨(some 123), none, .callf 155 [(.t 121), (.t 122)]⟩,
      ⟨(some 13), none, .mv (.t 123)⟩])
    (.block 7 (.seq (.ops [⟨(some 125), none, .mv (.t 10)⟩,
       ⟨(some 126), none, .bin .lss (.t 125) (.c (.int .i64 0))⟩,
       ⟨(some 127), none, .mv (.t 126)⟩,
       ⟨(some 128), some (127, true), .mv (.t 13)⟩,
       ⟨(some 129), none, .pick (.t 127) (.t 128) (.c (.bool false))⟩,
       ⟨(some 124), none, .mv (.t 129)⟩])
     (.cond (.t 124)
      (.ops [⟨(some 130), none, .mv (.t 0)⟩,
        ⟨(some 131), none, .fld 1 (.t 3)⟩,
        ⟨(some 132), none, .load1 (.t 131)⟩,
        ⟨(some 133), none, .load1 (.t 9)⟩,
        ⟨(some 134), none, .callf 134 [(.t 130), (.t 132), (.t 133)]⟩])
      (.seq (.ops [⟨(some 136), none, .mv (.t 10)⟩,
        ⟨(some 137), none, .bin .geq (.t 136) (.c (.int .i64 0))⟩,
        ⟨(some 138), none, .mv (.t 137)⟩,
        ⟨(some 139), some (138, true), .mv (.t 10)⟩,
        ⟨(some 140), some (138, true), .fld 9 (.t 3)⟩,
        ⟨(some 141), some (138, true), .load1 (.t 140)⟩,
        ⟨(some 142), some (138, true), .len (.t 141)⟩,
        ⟨(some 143), some (138, true), .bin .lss (.t 139) (.t 142)⟩,
        ⟨(some 144), none, .pick (.t 138) (.t 143) (.c (.bool false))⟩,
        ⟨(some 135), none, .mv (.t 144)⟩])
      (.cond (.t 135)
       (.ops [⟨(some 145), none, .mv (.t 0)⟩,
         ⟨(some 146), none, .fld 1 (.t 3)⟩,
         ⟨(some 147), none, .load1 (.t 146)⟩,
         ⟨(some 148), none, .fld 9 (.t 3)⟩,
         ⟨(some 149), none, .load1 (.t 148)⟩,
         ⟨(some 150), none, .mv (.t 10)⟩,
         ⟨(some 151), none, .idx 1 (.t 149) (.t 150)⟩,
         ⟨(some 152), none, .load1 (.t 151)⟩,
         ⟨(some 153), none, .callf 157 [(.t 152)]⟩,
         ⟨none, none, .again 147 (.load1 (.t 146))⟩,
         ⟨(some 154), none, .callf 134 [(.t 145), (.t 147), (.t 153)]⟩])
       .skip))))))))))
   (.ops [⟨(some 155), none, .bin .add (.t 94) (.c (.int .i64 1))⟩,
     ⟨(some 94), none, .mv (.t 155)⟩]))))))))))))⟩
def i136 : IFn := ⟨72, [],
 (.seq (.ops [⟨(some 3), none, .box 114 (.t 1)⟩])
 (.seq (.ops [⟨(some 8), none, .mv (.t 0)⟩,
   ⟨(some 9), none, .fld 10 (.t 3)⟩,
   ⟨(some 10), none, .load1 (.t 9)⟩,
   ⟨(some 11), none, .build [(.bool false), (.bool false), (.bool false)] []⟩,
   ⟨(some 12), none, .callf 107 [(.t 8), (.t 10), (.t 11)]⟩])
 (.seq (.ops [⟨(some 13), none, .mv (.t 0)⟩,
   ⟨(some 14), none, .fld 11 (.t 3)⟩,
   ⟨(some 15), none, .load1 (.t 14)⟩,
   ⟨(some 16), none, .build [(.bool false), (.bool false), (.bool false)] [(0, 1, (.c (.bool true)))]⟩,
   ⟨(some 17), none, .callf 74 [(.t 13), (.t 15), (.t 16)]⟩])
 (.seq (.seq (.ops [⟨(some 18), none, .fld 12 (.t 3)⟩,
   ⟨(some 19), none, .load1 (.t 18)⟩,
   ⟨(some 20), none, .len (.t 19)⟩,
   ⟨(some 21), none, .mv (.c (.int .i64 0))⟩])
 (.block 0 (.loop (.seq (.ops [⟨(some 22), none, .bin .lss (.t 21) (.t 20)⟩])
   (.seq (.cond (.t 22)
    .skip
    (.exit 0))
   (.seq (.block 1 (.seq (.ops [⟨(some 23), none, .idx 1 (.t 19) (.t 21)⟩,
      ⟨(some 24), none, .load1 (.t 23)⟩,
      ⟨(some 5), none, .mv (.t 24)⟩])
    (.seq (.ops [⟨(some 26), none, .mv (.t 0)⟩,
      ⟨(some 27), none, .mv (.t 5)⟩,
      ⟨(some 28), none, .callf 75 [(.t 26), (.t 27)]⟩,
      ⟨(some 25), none, .mv (.t 28)⟩,
      ⟨(some 29), none, .ext 0 (.t 25)⟩,
      ⟨(some 30), none, .ext 1 (.t 25)⟩,
      ⟨(some 6), none, .alloc 130 [(.str []), (.int .i64 0), (.int .i64 0), (.bool false), (.bool false), (.int .i64 0)]⟩,
      ⟨none, none, .store 6 (.t 6) (.t 29)⟩,
      ⟨(some 7), none, .mv (.t 30)⟩])
    (.seq (.ops [⟨(some 31), none, .mv (.t 7)⟩,
      ⟨(some 32), none, .not (.t 31)⟩])
    (.cond (.t 32)
     (.ops [⟨(some 33), none, .mv (.t 0)⟩,
       ⟨(some 34), none, .fld 1 (.t 3)⟩,
       ⟨(some 35), none, .load1 (.t 34)⟩,
       ⟨(some 36), none, .mv (.t 5)⟩,
       ⟨(some 37), none, .callf 69 [(.c (.str [108, 111, 111, 112])), (.t 35), (.c (.int .i64 2)), (.t 36)]⟩,
       ⟨(some 38), none, .callf 68 [(.t 33), (.t 37)]⟩])
     .skip)))))
   (.ops [⟨(some 39), none, .bin .add (.t 21) (.c (.int .i64 1))⟩,
     ⟨(some 21), none, .mv (.t 39)⟩])))))))
 (.seq (.ops [⟨(some 40), none, .mv (.t 0)⟩,
   ⟨(some 41), none, .mv (.t 0)⟩,
   ⟨(some 42), none, .nilchk (.t 41)⟩,
   ⟨(some 43), none, .fld 13 (.t 42)⟩,
   ⟨(some 44), none, .load1 (.t 43)⟩,
   ⟨(some 45), none, .fld 7 (.t 3)⟩,
   ⟨(some 46), none, .load1 (.t 45)⟩,
   ⟨(some 47), none, .fld 12 (.t 3)⟩,
   ⟨(some 48), none, .load1 (.t 47)⟩,
   ⟨(some 49), none, .build [(.bool false), .nils] [(0, 1, (.t 46)), (1, 1, (.t 48))]⟩,
   ⟨(some 50), none, .bslice 212 2 1 [(.bool false), .nils] [(0, 2, (.t 49))]⟩,
   ⟨(some 51), none, .append 212 2 32 (.t 44) (.t 50)⟩,
   ⟨(some 52), none, .nilchk (.t 40)⟩,
   ⟨(some 53), none, .fld 13 (.t 52)⟩,
   ⟨none, none, .store 1 (.t 53) (.t 51)⟩])
 (.seq (.ops [⟨(some 54), none, .mv (.t 0)⟩,
   ⟨(some 55), none, .fld 13 (.t 3)⟩,
   ⟨(some 56), none, .load1 (.t 55)⟩,
   ⟨(some 57), none, .callf 76 [(.t 54), (.t 56)]⟩])
 (.ops [⟨(some 58), none, .mv (.t 0)⟩,
   ⟨(some 59), none, .mv (.t 0)⟩,
   ⟨(some 60), none, .nilchk (.t 59)⟩,
   ⟨(some 61), none, .fld 13 (.t 60)⟩,
   ⟨(some 62), none, .load1 (.t 61)⟩,
   ⟨(some 63), none, .mv (.t 0)⟩,
   ⟨(some 64), none, .nilchk (.t 63)⟩,
   ⟨(some 65), none, .fld 13 (.t 64)⟩,
   ⟨(some 66), none, .load1 (.t 65)⟩,
   ⟨(some 67), none, .len (.t 66)⟩,
   ⟨(some 68), none, .bin .sub (.t 67) (.c (.int .i64 1))⟩,
   ⟨(some 69), none, .slice 2 (.t 62) none (some (.t 68)) none⟩,
   ⟨(some 70), none, .nilchk (.t 58)⟩,
   ⟨(some 71), none, .fld 13 (.t 70)⟩,
   ⟨none, none, .store 1 (.t 71) (.t 69)⟩])))))))⟩
def i142 : IFn := ⟨39, [.tmp 4],
 (.seq (.ops [⟨(some 4), none, .mv (.c .nils)⟩])
 (.seq (.ops [⟨(some 7), none, .mv (.t 0)⟩,
   ⟨(some 8), none, .mv (.t 1)⟩,
   ⟨(some 9), none, .callf 158 [(.t 7), (.t 8)]⟩,
   ⟨(some 1), none, .mv (.t 9)⟩])
 (.seq (.block 0 (.loop (.seq (.seq (.ops [⟨(some 10), none, .mv (.t 0)⟩,
     ⟨(some 11), none, .nilchk (.t 10)⟩,
     ⟨(some 12), none, .fld 3 (.t 11)⟩,
     ⟨(some 13), none, .load1 (.t 12)⟩,
     ⟨(some 14), none, .bin .eql (.t 13) (.c (.int .i64 0))⟩,
     ⟨(some 15), none, .mv (.t 14)⟩,
     ⟨(some 16), some (15, true), .mv (.t 0)⟩,
     ⟨(some 17), some (15, true), .callf 92 [(.t 16), (.c (.str [97, 110, 100]))]⟩,
     ⟨(some 18), none, .pick (.t 15) (.t 17) (.c (.bool false))⟩])
   (.cond (.t 18)
    .skip
    (.exit 0)))
   (.block 1 (.seq (.ops [⟨(some 19), none, .mv (.t 1)⟩,
      ⟨(some 20), none, .len (.t 19)⟩,
      ⟨(some 21), none, .bin .sub (.t 20) (.c (.int .i64 1))⟩,
      ⟨(some 22), none, .mv (.t 0)⟩,
      ⟨(some 23), none, .callf 93 [(.t 22)]⟩,
      ⟨(some 5), none, .mv (.t 21)⟩,
      ⟨(some 6), none, .mv (.t 23)⟩])
    (.seq (.ops [⟨(some 24), none, .mv (.t 0)⟩,
      ⟨(some 25), none, .callf 95 [(.t 24), (.c (.str [97, 110, 100]))]⟩])
    (.seq (.ops [⟨(some 26), none, .mv (.t 0)⟩,
      ⟨(some 27), none, .mv (.t 1)⟩,
      ⟨(some 28), none, .callf 158 [(.t 26), (.t 27)]⟩,
      ⟨(some 1), none, .mv (.t 28)⟩])
    (.ops [⟨(some 29), none, .mv (.t 1)⟩,
      ⟨(some 30), none, .mv (.t 5)⟩,
      ⟨(some 31), none, .mv (.t 1)⟩,
      ⟨(some 32), none, .len (.t 31)⟩,
      ⟨(some 33), none, .bin .sub (.t 32) (.c (.int .i64 1))⟩,
      ⟨(some 34), none, .mv (.t 6)⟩,
      ⟨(some 35), none, .build [(.int .i64 0), (.int .i64 0), .nils, .nils, (.int .i64 0), (.int .i64 0), (.int .i64 0)] [(0, 1, (.c (.int .i64 3))), (4, 1, (.t 30)), (5, 1, (.t 33)), (6, 1, (.t 34))]⟩,
      ⟨(some 36), none, .bslice 163 7 1 [(.int .i64 0), (.int .i64 0), .nils, .nils, (.int .i64 0), (.int .i64 0), (.int .i64 0)] [(0, 7, (.t 35))]⟩,
      ⟨(some 37), none, .append 163 7 88 (.t 29) (.t 36)⟩,
      ⟨(some 1), none, .mv (.t 37)⟩]))))))))
 (.seq (.ops [⟨(some 38), none, .mv (.t 1)⟩,
   ⟨(some 4), none, .mv (.t 38)⟩])
 .ret))))⟩
def i143 : IFn := ⟨21, [.cellN 15 4],
 (.seq (.ops [⟨(some 3), none, .box 114 (.t 1)⟩,
   ⟨(some 4), none, .alloc 114 [(.int .i64 0), (.int .i64 0), (.str []), (.int .i64 0), (.int .i64 0), .nils, .nils, (.bool false), (.str []), .nils, .nils, .nils, .nils, .nils, .nils]⟩])
 (.seq (.ops [⟨(some 5), none, .fld 0 (.t 3)⟩,
   ⟨none, none, .store 1 (.t 5) (.c (.int .i64 3))⟩])
 (.seq (.ops [⟨(some 6), none, .mv (.t 0)⟩,
   ⟨(some 7), none, .callf 94 [(.t 6)]⟩,
   ⟨(some 8), none, .fld 2 (.t 3)⟩,
   ⟨none, none, .store 1 (.t 8) (.t 7)⟩])
 (.seq (.seq (.ops [⟨(some 9), none, .mv (.t 0)⟩,
   ⟨(some 10), none, .callf 92 [(.t 9), (.c (.str [91]))]⟩])
 (.cond (.t 10)
  (.seq (.ops [⟨(some 11), none, .fld 0 (.t 3)⟩,
    ⟨none, none, .store 1 (.t 11) (.c (.int .i64 4))⟩])
  (.ops [⟨(some 12), none, .mv (.t 0)⟩,
    ⟨(some 13), none, .callf 159 [(.t 12), (.c .nils), (.c (.str [91])), (.c (.str [93]))]⟩,
    ⟨(some 14), none, .fld 5 (.t 3)⟩,
    ⟨none, none, .store 1 (.t 14) (.t 13)⟩]))
  .skip))
 (.seq (.ops [⟨(some 15), none, .mv (.t 0)⟩,
   ⟨(some 16), none, .callf 95 [(.t 15), (.c (.str [61]))]⟩])
 (.seq (.ops [⟨(some 17), none, .mv (.t 0)⟩,
   ⟨(some 18), none, .callf 147 [(.t 17), (.c .nils)]⟩,
   ⟨(some 19), none, .fld 6 (.t 3)⟩,
   ⟨none, none, .store 1 (.t 19) (.t 18)⟩])
 (.seq (.ops [⟨(some 20), none, .loadN 15 (.t 3)⟩,
   ⟨none, none, .store 15 (.t 4) (.t 20)⟩])
 .ret)))))))⟩
def i144 : IFn := ⟨26, [.cellN 15 4],
 (.seq (.ops [⟨(some 3), none, .box 114 (.t 1)⟩,
   ⟨(some 4), none, .alloc 114 [(.int .i64 0), (.int .i64 0), (.str []), (.int .i64 0), (.int .i64 0), .nils, .nils, (.bool false), (.str []), .nils, .nils, .nils, .nils, .nils, .nils]⟩])
 (.seq (.ops [⟨(some 5), none, .fld 0 (.t 3)⟩,
   ⟨none, none, .store 1 (.t 5) (.c (.int .i64 1))⟩])
 (.seq (.ops [⟨(some 6), none, .mv (.t 0)⟩,
   ⟨(some 7), none, .callf 94 [(.t 6)]⟩,
   ⟨(some 8), none, .fld 2 (.t 3)⟩,
   ⟨none, none, .store 1 (.t 8) (.t 7)⟩])
 (.seq (.ops [⟨(some 9), none, .mv (.t 0)⟩,
   ⟨(some 10), none, .callf 95 [(.t 9), (.c (.str [58]))]⟩])
 (.seq (.ops [⟨(some 11), none, .mv (.t 0)⟩,
   ⟨(some 12), none, .callf 96 [(.t 11)]⟩,
   ⟨(some 13), none, .fld 3 (.t 3)⟩,
   ⟨none, none, .store 1 (.t 13) (.t 12)⟩])
 (.seq (.seq (.ops [⟨(some 14), none, .mv (.t 0)⟩,
   ⟨(some 15), none, .callf 92 [(.t 14), (.c (.str [91]))]⟩])
 (.cond (.t 15)
  (.seq (.ops [⟨(some 16), none, .fld 0 (.t 3)⟩,
    ⟨none, none, .store 1 (.t 16) (.c (.int .i64 2))⟩])
  (.ops [⟨(some 17), none, .mv (.t 0)⟩,
    ⟨(some 18), none, .callf 97 [(.t 17)]⟩,
    ⟨(some 19), none, .fld 4 (.t 3)⟩,
    ⟨none, none, .store 1 (.t 19) (.t 18)⟩]))
  (.seq (.ops [⟨(some 20), none, .mv (.t 0)⟩,
    ⟨(some 21), none, .callf 95 [(.t 20), (.c (.str [61]))]⟩])
  (.ops [⟨(some 22), none, .mv (.t 0)⟩,
    ⟨(some 23), none, .callf 147 [(.t 22), (.c .nils)]⟩,
    ⟨(some 24), none, .fld 6 (.t 3)⟩,
    ⟨none, none, .store 1 (.t 24) (.t 23)⟩]))))
 (.seq (.ops [⟨(some 25), none, .loadN 15 (.t 3)⟩,
   ⟨none, none, .store 15 (.t 4) (.t 25)⟩])
 .ret)))))))⟩
def i145 : IFn := ⟨41, [.cellN 15 4],
 (.seq (.ops [⟨(some 3), none, .box 114 (.t 1)⟩,
   ⟨(some 4), none, .alloc 114 [(.int .i64 0), (.int .i64 0), (.str []), (.int .i64 0), (.int .i64 0), .nils, .nils, (.bool false), (.str []), .nils, .nils, .nils, .nils, .nils, .nils]⟩])
 (.seq (.ops [⟨(some 5), none, .fld 0 (.t 3)⟩,
   ⟨none, none, .store 1 (.t 5) (.c (.int .i64 5))⟩])
 (.seq (.ops [⟨(some 6), none, .mv (.t 0)⟩,
   ⟨(some 7), none, .callf 94 [(.t 6)]⟩,
   ⟨(some 8), none, .fld 8 (.t 3)⟩,
   ⟨none, none, .store 1 (.t 8) (.t 7)⟩])
 (.seq (.seq (.ops [⟨(some 9), none, .mv (.t 0)⟩,
   ⟨(some 10), none, .callf 55 [(.t 9), (.c (.str [61]))]⟩])
 (.cond (.t 10)
  (.seq (.ops [⟨(some 11), none, .fld 7 (.t 3)⟩,
    ⟨none, none, .store 1 (.t 11) (.c (.bool true))⟩])
  (.seq (.ops [⟨(some 12), none, .fld 8 (.t 3)⟩,
    ⟨(some 13), none, .load1 (.t 12)⟩,
    ⟨(some 14), none, .fld 2 (.t 3)⟩,
    ⟨none, none, .store 1 (.t 14) (.t 13)⟩])
  (.ops [⟨(some 15), none, .mv (.t 0)⟩,
    ⟨(some 16), none, .callf 94 [(.t 15)]⟩,
    ⟨(some 17), none, .fld 8 (.t 3)⟩,
    ⟨none, none, .store 1 (.t 17) (.t 16)⟩])))
  .skip))
 (.seq (.ops [⟨(some 18), none, .mv (.t 0)⟩,
   ⟨(some 19), none, .callf 95 [(.t 18), (.c (.str [40]))]⟩])
 (.seq (.seq (.ops [⟨(some 20), none, .mv (.t 0)⟩,
   ⟨(some 21), none, .callf 92 [(.t 20), (.c (.str [41]))]⟩,
   ⟨(some 22), none, .not (.t 21)⟩])
 (.cond (.t 22)
  (.block 0 (.loop (.seq (.seq (.ops [⟨(some 23), none, .mv (.t 0)⟩,
      ⟨(some 24), none, .nilchk (.t 23)⟩,
      ⟨(some 25), none, .fld 3 (.t 24)⟩,
      ⟨(some 26), none, .load1 (.t 25)⟩,
      ⟨(some 27), none, .bin .eql (.t 26) (.c (.int .i64 0))⟩])
    (.cond (.t 27)
     .skip
     (.exit 0)))
    (.block 1 (.seq (.ops [⟨(some 28), none, .fld 9 (.t 3)⟩,
       ⟨(some 29), none, .load1 (.t 28)⟩,
       ⟨(some 30), none, .mv (.t 0)⟩,
       ⟨(some 31), none, .callf 147 [(.t 30), (.c .nils)]⟩,
       ⟨none, none, .again 29 (.load1 (.t 28))⟩,
       ⟨(some 32), none, .bslice 55 1 1 [.nils] [(0, 1, (.t 31))]⟩,
       ⟨(some 33), none, .append 55 1 24 (.t 29) (.t 32)⟩,
       ⟨(some 34), none, .fld 9 (.t 3)⟩,
       ⟨none, none, .store 1 (.t 34) (.t 33)⟩])
     (.seq (.ops [⟨(some 35), none, .mv (.t 0)⟩,
       ⟨(some 36), none, .callf 55 [(.t 35), (.c (.str [44]))]⟩,
       ⟨(some 37), none, .not (.t 36)⟩])
     (.cond (.t 37)
      (.exit 0)
      .skip)))))))
  .skip))
 (.seq (.ops [⟨(some 38), none, .mv (.t 0)⟩,
   ⟨(some 39), none, .callf 95 [(.t 38), (.c (.str [41]))]⟩])
 (.seq (.ops [⟨(some 40), none, .loadN 15 (.t 3)⟩,
   ⟨none, none, .store 15 (.t 4) (.t 40)⟩])
 .ret))))))))⟩
def i146 : IFn := ⟨47, [.cellN 15 4],
 (.seq (.ops [⟨(some 3), none, .box 114 (.t 1)⟩,
   ⟨(some 4), none, .alloc 114 [(.int .i64 0), (.int .i64 0), (.str []), (.int .i64 0), (.int .i64 0), .nils, .nils, (.bool false), (.str []), .nils, .nils, .nils, .nils, .nils, .nils]⟩])
 (.seq (.ops [⟨(some 6), none, .fld 0 (.t 3)⟩,
   ⟨none, none, .store 1 (.t 6) (.c (.int .i64 7))⟩])
 (.seq (.ops [⟨(some 7), none, .mv (.t 0)⟩,
   ⟨(some 8), none, .callf 121 [(.t 7), (.c .nils)]⟩,
   ⟨(some 9), none, .fld 10 (.t 3)⟩,
   ⟨none, none, .store 1 (.t 9) (.t 8)⟩])
 (.seq (.block 0 (.loop (.seq (.seq (.ops [⟨(some 10), none, .mv (.t 0)⟩,
     ⟨(some 11), none, .nilchk (.t 10)⟩,
     ⟨(some 12), none, .fld 3 (.t 11)⟩,
     ⟨(some 13), none, .load1 (.t 12)⟩,
     ⟨(some 14), none, .bin .eql (.t 13) (.c (.int .i64 0))⟩,
     ⟨(some 15), none, .mv (.t 14)⟩,
     ⟨(some 16), some (15, true), .mv (.t 0)⟩,
     ⟨(some 17), some (15, true), .callf 92 [(.t 16), (.c (.str [105, 110, 118, 97, 114, 105, 97, 110, 116]))]⟩,
     ⟨(some 18), none, .pick (.t 15) (.t 17) (.c (.bool false))⟩])
   (.cond (.t 18)
    .skip
    (.exit 0)))
   (.block 1 (.seq (.ops [⟨(some 19), none, .mv (.t 0)⟩,
      ⟨(some 20), none, .callf 93 [(.t 19)]⟩,
      ⟨(some 21), none, .build [(.int .i64 0), .nils] [(0, 1, (.t 20))]⟩,
      ⟨(some 5), none, .alloc 139 [(.int .i64 0), .nils]⟩,
      ⟨none, none, .store 2 (.t 5) (.t 21)⟩])
    (.seq (.ops [⟨(some 22), none, .mv (.t 0)⟩,
      ⟨(some 23), none, .callf 95 [(.t 22), (.c (.str [105, 110, 118, 97, 114, 105, 97, 110, 116]))]⟩])
    (.seq (.ops [⟨(some 24), none, .mv (.t 0)⟩,
      ⟨(some 25), none, .callf 121 [(.t 24), (.c .nils)]⟩,
      ⟨(some 26), none, .fld 1 (.t 5)⟩,
      ⟨none, none, .store 1 (.t 26) (.t 25)⟩])
    (.seq (.ops [⟨(some 27), none, .mv (.t 0)⟩,
      ⟨(some 28), none, .callf 95 [(.t 27), (.c (.str [59]))]⟩])
    (.ops [⟨(some 29), none, .fld 11 (.t 3)⟩,
      ⟨(some 30), none, .load1 (.t 29)⟩,
      ⟨(some 31), none, .loadN 2 (.t 5)⟩,
      ⟨(some 32), none, .bslice 139 2 1 [(.int .i64 0), .nils] [(0, 2, (.t 31))]⟩,
      ⟨(some 33), none, .append 139 2 32 (.t 30) (.t 32)⟩,
      ⟨(some 34), none, .fld 11 (.t 3)⟩,
      ⟨none, none, .store 1 (.t 34) (.t 33)⟩])))))))))
 (.seq (.seq (.ops [⟨(some 35), none, .mv (.t 0)⟩,
   ⟨(some 36), none, .callf 55 [(.t 35), (.c (.str [97, 115, 115, 105, 103, 110, 115]))]⟩])
 (.cond (.t 36)
  (.seq (.ops [⟨(some 37), none, .fld 7 (.t 3)⟩,
    ⟨none, none, .store 1 (.t 37) (.c (.bool true))⟩])
  (.seq (.ops [⟨(some 38), none, .mv (.t 0)⟩,
    ⟨(some 39), none, .callf 122 [(.t 38), (.c .nils)]⟩,
    ⟨(some 40), none, .fld 12 (.t 3)⟩,
    ⟨none, none, .store 1 (.t 40) (.t 39)⟩])
  (.ops [⟨(some 41), none, .mv (.t 0)⟩,
    ⟨(some 42), none, .callf 95 [(.t 41), (.c (.str [59]))]⟩])))
  .skip))
 (.seq (.ops [⟨(some 43), none, .mv (.t 0)⟩,
   ⟨(some 44), none, .callf 101 [(.t 43)]⟩,
   ⟨(some 45), none, .fld 13 (.t 3)⟩,
   ⟨none, none, .store 1 (.t 45) (.t 44)⟩])
 (.seq (.ops [⟨(some 46), none, .loadN 15 (.t 3)⟩,
   ⟨none, none, .store 15 (.t 4) (.t 46)⟩])
 .ret)))))))⟩
def i147 : IFn := ⟨8, [.tmp 4],
 (.seq (.ops [⟨(some 4), none, .mv (.c .nils)⟩])
 (.seq (.ops [⟨(some 5), none, .mv (.t 0)⟩,
   ⟨(some 6), none, .mv (.t 1)⟩,
   ⟨(some 7), none, .callf 160 [(.t 5), (.t 6), (.c (.int .i64 0))]⟩,
   ⟨(some 4), none, .mv (.t 7)⟩])
 .ret))⟩
def i152 : IFn := ⟨85, [.tmp 10],
 (.seq (.ops [⟨(some 7), none, .box 95 (.t 2)⟩,
   ⟨(some 9), none, .box 133 (.t 4)⟩,
   ⟨(some 10), none, .mv (.c .nilIface)⟩])
 (.seq (.seq (.ops [⟨(some 13), none, .fld 0 (.t 7)⟩,
   ⟨(some 14), none, .load1 (.t 13)⟩])
 (.block 0 (.seq (.ops [⟨(some 16), none, .bin .eql (.t 14) (.c (.int .i64 2))⟩,
    ⟨(some 15), none, .mv (.t 16)⟩])
  (.cond (.t 15)
   (.seq (.ops [⟨(some 18), none, .mv (.t 0)⟩,
     ⟨(some 19), none, .fld 3 (.t 7)⟩,
     ⟨(some 20), none, .load1 (.t 19)⟩,
     ⟨(some 21), none, .callf 75 [(.t 18), (.t 20)]⟩,
     ⟨(some 17), none, .mv (.t 21)⟩,
     ⟨(some 22), none, .ext 0 (.t 17)⟩,
     ⟨(some 23), none, .ext 1 (.t 17)⟩,
     ⟨(some 11), none, .alloc 130 [(.str []), (.int .i64 0), (.int .i64 0), (.bool false), (.bool false), (.int .i64 0)]⟩,
     ⟨none, none, .store 6 (.t 11) (.t 22)⟩,
     ⟨(some 12), none, .mv (.t 23)⟩])
   (.block 1 (.seq (.ops [⟨(some 25), none, .mv (.t 12)⟩,
      ⟨(some 26), none, .not (.t 25)⟩,
      ⟨(some 24), none, .mv (.t 26)⟩])
    (.cond (.t 24)
     (.seq (.ops [⟨(some 27), none, .fld 6 (.t 7)⟩,
       ⟨(some 28), none, .load1 (.t 27)⟩,
       ⟨(some 29), none, .fld 3 (.t 7)⟩,
       ⟨(some 30), none, .load1 (.t 29)⟩,
       ⟨(some 31), none, .callf 69 [(.c (.str [110, 97, 109, 101])), (.t 28), (.c (.int .i64 2)), (.t 30)]⟩,
       ⟨(some 10), none, .mv (.t 31)⟩])
     .ret)
     (.seq (.ops [⟨(some 33), none, .fld 2 (.t 11)⟩,
       ⟨(some 34), none, .load1 (.t 33)⟩,
       ⟨(some 35), none, .bin .gtr (.t 34) (.c (.int .i64 0))⟩,
       ⟨(some 36), none, .mv (.t 35)⟩,
       ⟨(some 37), some (36, true), .fld 2 (.t 9)⟩,
       ⟨(some 38), some (36, true), .load1 (.t 37)⟩,
       ⟨(some 39), some (36, true), .mv (.t 38)⟩,
       ⟨(some 40), some (39, true), .mv (.t 1)⟩,
       ⟨(some 41), some (39, true), .len (.t 40)⟩,
       ⟨(some 42), some (39, true), .bin .eql (.t 41) (.c (.int .i64 1))⟩,
       ⟨(some 43), some (36, true), .pick (.t 39) (.t 42) (.c (.bool false))⟩,
       ⟨(some 44), some (36, true), .not (.t 43)⟩,
       ⟨(some 45), none, .pick (.t 36) (.t 44) (.c (.bool false))⟩,
       ⟨(some 32), none, .mv (.t 45)⟩])
     (.cond (.t 32)
      (.seq (.ops [⟨(some 46), none, .fld 6 (.t 7)⟩,
        ⟨(some 47), none, .load1 (.t 46)⟩,
        ⟨(some 48), none, .fld 3 (.t 7)⟩,
        ⟨(some 49), none, .load1 (.t 48)⟩,
        ⟨(some 50), none, .callf 69 [(.c (.str [110, 97, 109, 101])), (.t 47), (.c (.int .i64 3)), (.t 49)]⟩,
        ⟨(some 10), none, .mv (.t 50)⟩])
      .ret)
      .skip))))))
   (.seq (.ops [⟨(some 52), none, .bin .eql (.t 14) (.c (.int .i64 3))⟩,
     ⟨(some 51), none, .mv (.t 52)⟩])
   (.cond (.t 51)
    (.seq (.ops [⟨(some 53), none, .mv (.t 0)⟩,
      ⟨(some 54), none, .mv (.t 1)⟩,
      ⟨(some 55), none, .loadN 7 (.t 7)⟩,
      ⟨(some 56), none, .loadN 3 (.t 9)⟩,
      ⟨(some 57), none, .callf 162 [(.t 53), (.t 54), (.t 55), (.t 56)]⟩,
      ⟨(some 10), none, .mv (.t 57)⟩])
    .ret)
    (.seq (.ops [⟨(some 59), none, .bin .eql (.t 14) (.c (.int .i64 5))⟩,
      ⟨(some 58), none, .mv (.t 59)⟩])
    (.cond (.t 58)
     (.seq (.ops [⟨(some 60), none, .fld 1 (.t 9)⟩,
       ⟨(some 61), none, .load1 (.t 60)⟩,
       ⟨(some 62), none, .not (.t 61)⟩,
       ⟨(some 63), none, .mv (.t 62)⟩,
       ⟨(some 64), some (63, false), .mv (.t 0)⟩,
       ⟨(some 65), some (63, false), .nilchk (.t 64)⟩,
       ⟨(some 66), some (63, false), .fld 2 (.t 65)⟩,
       ⟨(some 67), some (63, false), .fld 3 (.t 66)⟩,
       ⟨(some 68), some (63, false), .load1 (.t 67)⟩,
       ⟨(some 69), some (63, false), .bin .eql (.t 68) (.c (.int .i64 0))⟩,
       ⟨(some 70), none, .pick (.t 63) (.c (.bool true)) (.t 69)⟩])
     (.cond (.t 70)
      (.seq (.ops [⟨(some 71), none, .fld 6 (.t 7)⟩,
        ⟨(some 72), none, .load1 (.t 71)⟩,
        ⟨(some 73), none, .callf 69 [(.c (.str [114, 101, 115, 117, 108, 116])), (.t 72), (.c (.int .i64 6)), (.c (.str []))]⟩,
        ⟨(some 10), none, .mv (.t 73)⟩])
      .ret)
      .skip))
     (.seq (.ops [⟨(some 75), none, .bin .eql (.t 14) (.c (.int .i64 4))⟩,
       ⟨(some 74), none, .mv (.t 75)⟩])
     (.cond (.t 74)
      (.seq (.ops [⟨(some 76), none, .fld 1 (.t 9)⟩,
        ⟨(some 77), none, .load1 (.t 76)⟩,
        ⟨(some 78), none, .not (.t 77)⟩,
        ⟨(some 79), none, .mv (.t 78)⟩,
        ⟨(some 80), some (79, false), .mv (.t 3)⟩,
        ⟨(some 81), none, .pick (.t 79) (.c (.bool true)) (.t 80)⟩])
      (.cond (.t 81)
       (.seq (.ops [⟨(some 82), none, .fld 6 (.t 7)⟩,
         ⟨(some 83), none, .load1 (.t 82)⟩,
         ⟨(some 84), none, .callf 69 [(.c (.str [111, 108, 100])), (.t 83), (.c (.int .i64 6)), (.c (.str []))]⟩,
         ⟨(some 10), none, .mv (.t 84)⟩])
       .ret)
       .skip))
      .skip))))))))))
 (.seq (.ops [⟨(some 10), none, .mv (.c .nilIface)⟩])
 .ret)))⟩
def i153 : IFn := ⟨19, [.cellN 8 4, .tmp 5],
 (.seq (.ops [⟨(some 2), none, .box 27 (.t 0)⟩,
   ⟨(some 3), none, .box 9 (.t 1)⟩,
   ⟨(some 4), none, .alloc 40 [(.str []), (.int .i64 0), .nils, (.int .i64 0), .nils, .nils, .nils, .nils]⟩,
   ⟨(some 5), none, .mv (.c (.bool false))⟩])
 (.seq (.ops [⟨(some 7), none, .fld 1 (.t 2)⟩,
   ⟨(some 8), none, .load1 (.t 7)⟩,
   ⟨(some 9), none, .mkf 164 [] [(.t 3)]⟩,
   ⟨(some 10), none, .callf 163 [(.t 8), (.t 9)]⟩,
   ⟨(some 6), none, .mv (.t 10)⟩])
 (.seq (.seq (.ops [⟨(some 11), none, .mv (.t 6)⟩,
   ⟨(some 12), none, .bin .lss (.t 11) (.c (.int .i64 0))⟩])
 (.cond (.t 12)
  (.seq (.ops [⟨(some 13), none, .build [(.str []), (.int .i64 0), .nils, (.int .i64 0), .nils, .nils, .nils, .nils] []⟩,
    ⟨none, none, .store 8 (.t 4) (.t 13)⟩,
    ⟨(some 5), none, .mv (.c (.bool false))⟩])
  .ret)
  .skip))
 (.seq (.ops [⟨(some 14), none, .fld 1 (.t 2)⟩,
   ⟨(some 15), none, .load1 (.t 14)⟩,
   ⟨(some 16), none, .mv (.t 6)⟩,
   ⟨(some 17), none, .idx 8 (.t 15) (.t 16)⟩,
   ⟨(some 18), none, .loadN 8 (.t 17)⟩,
   ⟨none, none, .store 8 (.t 4) (.t 18)⟩,
   ⟨(some 5), none, .mv (.c (.bool true))⟩])
 .ret))))⟩
def i154 : IFn := ⟨82, [.tmp 6],
 (.seq (.ops [⟨(some 4), none, .box 114 (.t 1)⟩,
   ⟨(some 5), none, .box 40 (.t 2)⟩,
   ⟨(some 6), none, .mv (.c (.bool false))⟩])
 (.seq (.seq (.ops [⟨(some 12), none, .fld 9 (.t 4)⟩,
   ⟨(some 13), none, .load1 (.t 12)⟩,
   ⟨(some 14), none, .len (.t 13)⟩,
   ⟨(some 15), none, .fld 2 (.t 5)⟩,
   ⟨(some 16), none, .load1 (.t 15)⟩,
   ⟨(some 17), none, .len (.t 16)⟩,
   ⟨(some 18), none, .bin .neq (.t 14) (.t 17)⟩,
   ⟨(some 19), none, .mv (.t 18)⟩,
   ⟨(some 20), some (19, false), .fld 7 (.t 4)⟩,
   ⟨(some 21), some (19, false), .load1 (.t 20)⟩,
   ⟨(some 22), some (19, false), .mv (.t 21)⟩,
   ⟨(some 23), some (22, true), .fld 3 (.t 5)⟩,
   ⟨(some 24), some (22, true), .load1 (.t 23)⟩,
   ⟨(some 25), some (22, true), .bin .eql (.t 24) (.c (.int .i64 0))⟩,
   ⟨(some 26), some (19, false), .pick (.t 22) (.t 25) (.c (.bool false))⟩,
   ⟨(some 27), none, .pick (.t 19) (.c (.bool true)) (.t 26)⟩])
 (.cond (.t 27)
  (.seq (.ops [⟨(some 6), none, .mv (.c (.bool false))⟩])
  .ret)
  .skip))
 (.seq (.ops [⟨(some 7), none, .mv (.c .nils)⟩])
 (.seq (.seq (.ops [⟨(some 28), none, .fld 2 (.t 5)⟩,
   ⟨(some 29), none, .load1 (.t 28)⟩,
   ⟨(some 30), none, .len (.t 29)⟩,
   ⟨(some 31), none, .mv (.c (.int .i64 0))⟩])
 (.block 0 (.loop (.seq (.ops [⟨(some 32), none, .bin .lss (.t 31) (.t 30)⟩])
   (.seq (.cond (.t 32)
    .skip
    (.exit 0))
   (.seq (.block 1 (.seq (.ops [⟨(some 33), none, .mv (.t 31)⟩,
      ⟨(some 34), none, .idx 4 (.t 29) (.t 31)⟩,
      ⟨(some 35), none, .loadN 4 (.t 34)⟩,
      ⟨(some 9), none, .alloc 77 [(.str []), (.int .i64 0), (.int .i64 0), (.int .i64 0)]⟩,
      ⟨(some 8), none, .mv (.t 33)⟩,
      ⟨none, none, .store 4 (.t 9) (.t 35)⟩])
    (.seq (.seq (.ops [⟨(some 36), none, .fld 2 (.t 9)⟩,
      ⟨(some 37), none, .load1 (.t 36)⟩,
      ⟨(some 38), none, .bin .eql (.t 37) (.c (.int .i64 0))⟩])
    (.cond (.t 38)
     (.exit 1)
     .skip))
    (.seq (.ops [⟨(some 40), none, .mv (.t 0)⟩,
      ⟨(some 41), none, .fld 9 (.t 4)⟩,
      ⟨(some 42), none, .load1 (.t 41)⟩,
      ⟨(some 43), none, .mv (.t 8)⟩,
      ⟨(some 44), none, .idx 1 (.t 42) (.t 43)⟩,
      ⟨(some 45), none, .load1 (.t 44)⟩,
      ⟨(some 46), none, .callf 157 [(.t 45)]⟩,
      ⟨(some 47), none, .callf 75 [(.t 40), (.t 46)]⟩,
      ⟨(some 39), none, .mv (.t 47)⟩,
      ⟨(some 48), none, .ext 0 (.t 39)⟩,
      ⟨(some 49), none, .ext 1 (.t 39)⟩,
      ⟨(some 10), none, .alloc 130 [(.str []), (.int .i64 0), (.int .i64 0), (.bool false), (.bool false), (.int .i64 0)]⟩,
      ⟨none, none, .store 6 (.t 10) (.t 48)⟩,
      ⟨(some 11), none, .mv (.t 49)⟩])
    (.seq (.seq (.ops [⟨(some 50), none, .mv (.t 11)⟩,
      ⟨(some 51), none, .not (.t 50)⟩,
      ⟨(some 52), none, .mv (.t 51)⟩,
      ⟨(some 53), some (52, false), .fld 3 (.t 10)⟩,
      ⟨(some 54), some (52, false), .load1 (.t 53)⟩,
      ⟨(some 55), none, .pick (.t 52) (.c (.bool true)) (.t 54)⟩,
      ⟨(some 56), none, .mv (.t 55)⟩,
      ⟨(some 57), some (56, false), .fld 1 (.t 10)⟩,
      ⟨(some 58), some (56, false), .load1 (.t 57)⟩,
      ⟨(some 59), some (56, false), .fld 1 (.t 9)⟩,
      ⟨(some 60), some (56, false), .load1 (.t 59)⟩,
      ⟨(some 61), some (56, false), .bin .neq (.t 58) (.t 60)⟩,
      ⟨(some 62), none, .pick (.t 56) (.c (.bool true)) (.t 61)⟩,
      ⟨(some 63), none, .mv (.t 62)⟩,
      ⟨(some 64), some (63, false), .fld 2 (.t 10)⟩,
      ⟨(some 65), some (63, false), .load1 (.t 64)⟩,
      ⟨(some 66), some (63, false), .fld 2 (.t 9)⟩,
      ⟨(some 67), some (63, false), .load1 (.t 66)⟩,
      ⟨(some 68), some (63, false), .bin .neq (.t 65) (.t 67)⟩,
      ⟨(some 69), none, .pick (.t 63) (.c (.bool true)) (.t 68)⟩,
      ⟨(some 70), none, .mv (.t 69)⟩,
      ⟨(some 71), some (70, false), .mv (.t 7)⟩,
      ⟨(some 72), some (70, false), .fld 0 (.t 10)⟩,
      ⟨(some 73), some (70, false), .load1 (.t 72)⟩,
      ⟨(some 74), some (70, false), .callf 67 [(.t 71), (.t 73)]⟩,
      ⟨(some 75), none, .pick (.t 70) (.c (.bool true)) (.t 74)⟩])
    (.cond (.t 75)
     (.seq (.ops [⟨(some 6), none, .mv (.c (.bool false))⟩])
     .ret)
     .skip))
    (.ops [⟨(some 76), none, .mv (.t 7)⟩,
      ⟨(some 77), none, .fld 0 (.t 10)⟩,
      ⟨(some 78), none, .load1 (.t 77)⟩,
      ⟨(some 79), none, .bslice 9 1 1 [(.str [])] [(0, 1, (.t 78))]⟩,
      ⟨(some 80), none, .append 9 1 16 (.t 76) (.t 79)⟩,
      ⟨(some 7), none, .mv (.t 80)⟩]))))))
   (.ops [⟨(some 81), none, .bin .add (.t 31) (.c (.int .i64 1))⟩,
     ⟨(some 31), none, .mv (.t 81)⟩])))))))
 (.seq (.ops [⟨(some 6), none, .mv (.c (.bool true))⟩])
 .ret)))))⟩
def i155 : IFn := ⟨9, [.tmp 4],
 (.seq (.ops [⟨(some 4), none, .mv (.c (.bool false))⟩])
 (.seq (.ops [⟨(some 5), none, .mv (.t 0)⟩,
   ⟨(some 6), none, .mv (.t 1)⟩,
   ⟨(some 7), none, .callf 165 [(.t 5), (.t 6)]⟩,
   ⟨(some 8), none, .bin .geq (.t 7) (.c (.int .i64 0))⟩,
   ⟨(some 4), none, .mv (.t 8)⟩])
 .ret))⟩
def i156 : IFn := ⟨8, [.tmp 3],
 (.seq (.ops [⟨(some 2), none, .box 79 (.t 0)⟩,
   ⟨(some 3), none, .mv (.c (.bool false))⟩])
 (.seq (.ops [⟨(some 4), none, .fld 0 (.t 2)⟩,
   ⟨(some 5), none, .load1 (.t 4)⟩,
   ⟨(some 6), none, .load1 (.t 1)⟩,
   ⟨(some 7), none, .bin .eql (.t 5) (.t 6)⟩,
   ⟨(some 3), none, .mv (.t 7)⟩])
 .ret))⟩
def i157 : IFn := ⟨17, [.tmp 2],
 (.seq (.ops [⟨(some 2), none, .mv (.c (.str []))⟩])
 (.seq (.seq (.ops [⟨(some 3), none, .mv (.t 0)⟩,
   ⟨(some 4), none, .len (.t 3)⟩,
   ⟨(some 5), none, .bin .neq (.t 4) (.c (.int .i64 1))⟩,
   ⟨(some 6), none, .mv (.t 5)⟩,
   ⟨(some 7), some (6, false), .mv (.t 0)⟩,
   ⟨(some 8), some (6, false), .idx 7 (.t 7) (.c (.int .i64 0))⟩,
   ⟨(some 9), some (6, false), .fld 0 (.t 8)⟩,
   ⟨(some 10), some (6, false), .load1 (.t 9)⟩,
   ⟨(some 11), some (6, false), .bin .neq (.t 10) (.c (.int .i64 2))⟩,
   ⟨(some 12), none, .pick (.t 6) (.c (.bool true)) (.t 11)⟩])
 (.cond (.t 12)
  (.seq (.ops [⟨(some 2), none, .mv (.c (.str []))⟩])
  .ret)
  .skip))
 (.seq (.ops [⟨(some 13), none, .mv (.t 0)⟩,
   ⟨(some 14), none, .idx 7 (.t 13) (.c (.int .i64 0))⟩,
   ⟨(some 15), none, .fld 3 (.t 14)⟩,
   ⟨(some 16), none, .load1 (.t 15)⟩,
   ⟨(some 2), none, .mv (.t 16)⟩])
 .ret)))⟩
def i158 : IFn := ⟨117, [.tmp 4],
 (.seq (.ops [⟨(some 4), none, .mv (.c .nils)⟩])
 (.seq (.seq (.ops [⟨(some 9), none, .mv (.t 0)⟩,
   ⟨(some 10), none, .nilchk (.t 9)⟩,
   ⟨(some 11), none, .fld 3 (.t 10)⟩,
   ⟨(some 12), none, .load1 (.t 11)⟩,
   ⟨(some 13), none, .bin .neq (.t 12) (.c (.int .i64 0))⟩])
 (.cond (.t 13)
  (.seq (.ops [⟨(some 14), none, .mv (.t 1)⟩,
    ⟨(some 4), none, .mv (.t 14)⟩])
  .ret)
  .skip))
 (.seq (.ops [⟨(some 15), none, .mv (.t 0)⟩,
   ⟨(some 16), none, .callf 93 [(.t 15)]⟩,
   ⟨(some 5), none, .mv (.t 16)⟩])
 (.seq (.block 0 (.seq (.ops [⟨(some 18), none, .mv (.t 0)⟩,
    ⟨(some 19), none, .callf 92 [(.t 18), (.c (.str [110, 111, 116]))]⟩,
    ⟨(some 17), none, .mv (.t 19)⟩])
  (.cond (.t 17)
   (.seq (.ops [⟨(some 20), none, .mv (.t 0)⟩,
     ⟨(some 21), none, .callf 123 [(.t 20), (.c (.str [110, 111, 116]))]⟩])
   (.seq (.ops [⟨(some 22), none, .mv (.t 0)⟩,
     ⟨(some 23), none, .mv (.t 1)⟩,
     ⟨(some 24), none, .callf 158 [(.t 22), (.t 23)]⟩,
     ⟨(some 1), none, .mv (.t 24)⟩])
   (.seq (.ops [⟨(some 25), none, .mv (.t 0)⟩,
     ⟨(some 26), none, .nilchk (.t 25)⟩,
     ⟨(some 27), none, .fld 2 (.t 26)⟩,
     ⟨(some 28), none, .load1 (.t 27)⟩,
     ⟨(some 29), none, .bin .sub (.t 28) (.c (.int .i64 1))⟩,
     ⟨(some 30), none, .nilchk (.t 25)⟩,
     ⟨(some 31), none, .fld 2 (.t 30)⟩,
     ⟨none, none, .store 1 (.t 31) (.t 29)⟩])
   (.seq (.ops [⟨(some 32), none, .mv (.t 1)⟩,
     ⟨(some 33), none, .mv (.t 1)⟩,
     ⟨(some 34), none, .len (.t 33)⟩,
     ⟨(some 35), none, .bin .sub (.t 34) (.c (.int .i64 1))⟩,
     ⟨(some 36), none, .mv (.t 5)⟩,
     ⟨(some 37), none, .build [(.int .i64 0), (.int .i64 0), .nils, .nils, (.int .i64 0), (.int .i64 0), (.int .i64 0)] [(0, 1, (.c (.int .i64 2))), (4, 1, (.t 35)), (5, 1, (.c (.int .i64 (-1)))), (6, 1, (.t 36))]⟩,
     ⟨(some 38), none, .bslice 163 7 1 [(.int .i64 0), (.int .i64 0), .nils, .nils, (.int .i64 0), (.int .i64 0), (.int .i64 0)] [(0, 7, (.t 37))]⟩,
     ⟨(some 39), none, .append 163 7 88 (.t 32) (.t 38)⟩,
     ⟨(some 4), none, .mv (.t 39)⟩])
   .ret))))
   (.seq (.ops [⟨(some 41), none, .mv (.t 0)⟩,
     ⟨(some 42), none, .callf 92 [(.t 41), (.c (.str [91]))]⟩,
     ⟨(some 40), none, .mv (.t 42)⟩])
   (.cond (.t 40)
    (.seq (.ops [⟨(some 43), none, .mv (.t 0)⟩,
      ⟨(some 44), none, .callf 123 [(.t 43), (.c (.str [91]))]⟩])
    (.seq (.ops [⟨(some 45), none, .mv (.t 0)⟩,
      ⟨(some 46), none, .mv (.t 1)⟩,
      ⟨(some 47), none, .callf 121 [(.t 45), (.t 46)]⟩,
      ⟨(some 1), none, .mv (.t 47)⟩])
    (.seq (.ops [⟨(some 48), none, .mv (.t 0)⟩,
      ⟨(some 49), none, .callf 95 [(.t 48), (.c (.str [93]))]⟩])
    (.seq (.ops [⟨(some 50), none, .mv (.t 0)⟩,
      ⟨(some 51), none, .nilchk (.t 50)⟩,
      ⟨(some 52), none, .fld 2 (.t 51)⟩,
      ⟨(some 53), none, .load1 (.t 52)⟩,
      ⟨(some 54), none, .bin .sub (.t 53) (.c (.int .i64 1))⟩,
      ⟨(some 55), none, .nilchk (.t 50)⟩,
      ⟨(some 56), none, .fld 2 (.t 55)⟩,
      ⟨none, none, .store 1 (.t 56) (.t 54)⟩])
    (.seq (.ops [⟨(some 57), none, .mv (.t 1)⟩,
      ⟨(some 4), none, .mv (.t 57)⟩])
    .ret)))))
    .skip)))))
 (.seq (.ops [⟨(some 58), none, .mv (.t 0)⟩,
   ⟨(some 59), none, .callf 147 [(.t 58), (.c .nils)]⟩,
   ⟨(some 6), none, .mv (.t 59)⟩])
 (.seq (.ops [⟨(some 60), none, .mv (.t 0)⟩,
   ⟨(some 61), none, .callf 93 [(.t 60)]⟩,
   ⟨(some 5), none, .mv (.t 61)⟩])
 (.seq (.ops [⟨(some 62), none, .mv (.t 0)⟩,
   ⟨(some 63), none, .nilchk (.t 62)⟩,
   ⟨(some 64), none, .fld 0 (.t 63)⟩,
   ⟨(some 65), none, .load1 (.t 64)⟩,
   ⟨(some 66), none, .mv (.t 0)⟩,
   ⟨(some 67), none, .nilchk (.t 66)⟩,
   ⟨(some 68), none, .fld 1 (.t 67)⟩,
   ⟨(some 69), none, .load1 (.t 68)⟩,
   ⟨(some 70), none, .idx 3 (.t 65) (.t 69)⟩,
   ⟨(some 71), none, .fld 1 (.t 70)⟩,
   ⟨(some 72), none, .load1 (.t 71)⟩,
   ⟨(some 73), none, .callf 166 [(.t 72)]⟩,
   ⟨(some 7), none, .mv (.t 73)⟩])
 (.seq (.seq (.ops [⟨(some 74), none, .mv (.t 0)⟩,
   ⟨(some 75), none, .nilchk (.t 74)⟩,
   ⟨(some 76), none, .fld 3 (.t 75)⟩,
   ⟨(some 77), none, .load1 (.t 76)⟩,
   ⟨(some 78), none, .bin .neq (.t 77) (.c (.int .i64 0))⟩,
   ⟨(some 79), none, .mv (.t 78)⟩,
   ⟨(some 80), some (79, false), .mv (.t 0)⟩,
   ⟨(some 81), some (79, false), .nilchk (.t 80)⟩,
   ⟨(some 82), some (79, false), .fld 0 (.t 81)⟩,
   ⟨(some 83), some (79, false), .load1 (.t 82)⟩,
   ⟨(some 84), some (79, false), .mv (.t 0)⟩,
   ⟨(some 85), some (79, false), .nilchk (.t 84)⟩,
   ⟨(some 86), some (79, false), .fld 1 (.t 85)⟩,
   ⟨(some 87), some (79, false), .load1 (.t 86)⟩,
   ⟨(some 88), some (79, false), .idx 3 (.t 83) (.t 87)⟩,
   ⟨(some 89), some (79, false), .fld 0 (.t 88)⟩,
   ⟨(some 90), some (79, false), .load1 (.t 89)⟩,
   ⟨(some 91), some (79, false), .bin .neq (.t 90) (.c (.int .i64 4))⟩,
   ⟨(some 92), none, .pick (.t 79) (.c (.bool true)) (.t 91)⟩,
   ⟨(some 93), none, .mv (.t 92)⟩,
   ⟨(some 94), some (93, false), .mv (.t 7)⟩,
   ⟨(some 95), some (93, false), .bin .eql (.t 94) (.c (.int .i64 0))⟩,
   ⟨(some 96), none, .pick (.t 93) (.c (.bool true)) (.t 95)⟩])
 (.cond (.t 96)
  (.seq (.ops [⟨(some 97), none, .mv (.t 0)⟩,
    ⟨(some 98), none, .callf 58 [(.t 97), (.c (.int .i64 5))]⟩])
  (.seq (.ops [⟨(some 99), none, .mv (.t 1)⟩,
    ⟨(some 4), none, .mv (.t 99)⟩])
  .ret))
  .skip))
 (.seq (.ops [⟨(some 100), none, .mv (.t 0)⟩,
   ⟨(some 101), none, .nilchk (.t 100)⟩,
   ⟨(some 102), none, .fld 1 (.t 101)⟩,
   ⟨(some 103), none, .load1 (.t 102)⟩,
   ⟨(some 104), none, .bin .add (.t 103) (.c (.int .i64 1))⟩,
   ⟨(some 105), none, .nilchk (.t 100)⟩,
   ⟨(some 106), none, .fld 1 (.t 105)⟩,
   ⟨none, none, .store 1 (.t 106) (.t 104)⟩])
 (.seq (.ops [⟨(some 107), none, .mv (.t 0)⟩,
   ⟨(some 108), none, .callf 147 [(.t 107), (.c .nils)]⟩,
   ⟨(some 8), none, .mv (.t 108)⟩])
 (.seq (.ops [⟨(some 109), none, .mv (.t 1)⟩,
   ⟨(some 110), none, .mv (.t 7)⟩,
   ⟨(some 111), none, .mv (.t 6)⟩,
   ⟨(some 112), none, .mv (.t 8)⟩,
   ⟨(some 113), none, .mv (.t 5)⟩,
   ⟨(some 114), none, .build [(.int .i64 0), (.int .i64 0), .nils, .nils, (.int .i64 0), (.int .i64 0), (.int .i64 0)] [(0, 1, (.c (.int .i64 1))), (1, 1, (.t 110)), (2, 1, (.t 111)), (3, 1, (.t 112)), (4, 1, (.c (.int .i64 (-1)))), (5, 1, (.c (.int .i64 (-1)))), (6, 1, (.t 113))]⟩,
   ⟨(some 115), none, .bslice 163 7 1 [(.int .i64 0), (.int .i64 0), .nils, .nils, (.int .i64 0), (.int .i64 0), (.int .i64 0)] [(0, 7, (.t 114))]⟩,
   ⟨(some 116), none, .append 163 7 88 (.t 109) (.t 115)⟩,
   ⟨(some 4), none, .mv (.t 116)⟩])
 .ret)))))))))))⟩
def i159 : IFn := ⟨26, [.tmp 8],
 (.seq (.ops [⟨(some 8), none, .mv (.c .nils)⟩])
 (.seq (.ops [⟨(some 9), none, .mv (.t 0)⟩,
   ⟨(some 10), none, .mv (.t 2)⟩,
   ⟨(some 11), none, .callf 123 [(.t 9), (.t 10)]⟩])
 (.seq (.ops [⟨(some 12), none, .mv (.t 0)⟩,
   ⟨(some 13), none, .mv (.t 1)⟩,
   ⟨(some 14), none, .callf 147 [(.t 12), (.t 13)]⟩,
   ⟨(some 1), none, .mv (.t 14)⟩])
 (.seq (.ops [⟨(some 15), none, .mv (.t 0)⟩,
   ⟨(some 16), none, .mv (.t 3)⟩,
   ⟨(some 17), none, .callf 95 [(.t 15), (.t 16)]⟩])
 (.seq (.ops [⟨(some 18), none, .mv (.t 0)⟩,
   ⟨(some 19), none, .nilchk (.t 18)⟩,
   ⟨(some 20), none, .fld 2 (.t 19)⟩,
   ⟨(some 21), none, .load1 (.t 20)⟩,
   ⟨(some 22), none, .bin .sub (.t 21) (.c (.int .i64 1))⟩,
   ⟨(some 23), none, .nilchk (.t 18)⟩,
   ⟨(some 24), none, .fld 2 (.t 23)⟩,
   ⟨none, none, .store 1 (.t 24) (.t 22)⟩])
 (.seq (.ops [⟨(some 25), none, .mv (.t 1)⟩,
   ⟨(some 8), none, .mv (.t 25)⟩])
 .ret))))))⟩
def i160 : IFn := ⟨70, [.tmp 6],
 (.seq (.ops [⟨(some 6), none, .mv (.c .nils)⟩])
 (.seq (.seq (.ops [⟨(some 13), none, .mv (.t 2)⟩,
   ⟨(some 14), none, .bin .gtr (.t 13) (.c (.int .i64 3))⟩])
 (.cond (.t 14)
  (.seq (.ops [⟨(some 15), none, .mv (.t 0)⟩,
    ⟨(some 16), none, .mv (.t 1)⟩,
    ⟨(some 17), none, .callf 167 [(.t 15), (.t 16)]⟩,
    ⟨(some 6), none, .mv (.t 17)⟩])
  .ret)
  .skip))
 (.seq (.ops [⟨(some 18), none, .mv (.t 0)⟩,
   ⟨(some 19), none, .mv (.t 1)⟩,
   ⟨(some 20), none, .mv (.t 2)⟩,
   ⟨(some 21), none, .bin .add (.t 20) (.c (.int .i64 1))⟩,
   ⟨(some 22), none, .callf 160 [(.t 18), (.t 19), (.t 21)]⟩,
   ⟨(some 1), none, .mv (.t 22)⟩])
 (.seq (.ops [⟨(some 24), none, .mv (.t 2)⟩,
   ⟨(some 25), none, .callf 168 [(.t 24)]⟩,
   ⟨(some 23), none, .mv (.t 25)⟩,
   ⟨(some 26), none, .ext 0 (.t 23)⟩,
   ⟨(some 27), none, .ext 1 (.t 23)⟩,
   ⟨(some 7), none, .mv (.t 26)⟩,
   ⟨(some 8), none, .mv (.t 27)⟩])
 (.seq (.block 0 (.loop (.seq (.seq (.ops [⟨(some 28), none, .mv (.t 0)⟩,
     ⟨(some 29), none, .nilchk (.t 28)⟩,
     ⟨(some 30), none, .fld 3 (.t 29)⟩,
     ⟨(some 31), none, .load1 (.t 30)⟩,
     ⟨(some 32), none, .bin .eql (.t 31) (.c (.int .i64 0))⟩])
   (.cond (.t 32)
    .skip
    (.exit 0)))
   (.block 1 (.seq (.ops [⟨(some 33), none, .mv (.t 1)⟩,
      ⟨(some 34), none, .len (.t 33)⟩,
      ⟨(some 35), none, .bin .sub (.t 34) (.c (.int .i64 1))⟩,
      ⟨(some 36), none, .mv (.t 0)⟩,
      ⟨(some 37), none, .callf 93 [(.t 36)]⟩,
      ⟨(some 9), none, .mv (.t 35)⟩,
      ⟨(some 10), none, .mv (.t 37)⟩,
      ⟨(some 11), none, .mv (.c (.int .i64 0))⟩])
    (.seq (.seq (.ops [⟨(some 12), none, .mv (.c (.int .i64 0))⟩])
    (.block 2 (.loop (.seq (.seq (.ops [⟨(some 38), none, .mv (.t 12)⟩,
        ⟨(some 39), none, .mv (.t 7)⟩,
        ⟨(some 40), none, .len (.t 39)⟩,
        ⟨(some 41), none, .bin .lss (.t 38) (.t 40)⟩,
        ⟨(some 42), none, .mv (.t 41)⟩,
        ⟨(some 43), some (42, true), .mv (.t 11)⟩,
        ⟨(some 44), some (42, true), .bin .eql (.t 43) (.c (.int .i64 0))⟩,
        ⟨(some 45), none, .pick (.t 42) (.t 44) (.c (.bool false))⟩])
      (.cond (.t 45)
       .skip
       (.exit 2)))
      (.seq (.block 3 (.seq (.ops [⟨(some 48), none, .mv (.t 0)⟩,
         ⟨(some 49), none, .mv (.t 7)⟩,
         ⟨(some 50), none, .mv (.t 12)⟩,
         ⟨(some 51), none, .idx 1 (.t 49) (.t 50)⟩,
         ⟨(some 52), none, .load1 (.t 51)⟩,
         ⟨(some 53), none, .callf 55 [(.t 48), (.t 52)]⟩])
       (.cond (.t 53)
        (.ops [⟨(some 54), none, .mv (.t 8)⟩,
          ⟨(some 55), none, .mv (.t 12)⟩,
          ⟨(some 56), none, .idx 1 (.t 54) (.t 55)⟩,
          ⟨(some 57), none, .load1 (.t 56)⟩,
          ⟨(some 11), none, .mv (.t 57)⟩])
        .skip)))
      (.ops [⟨(some 46), none, .mv (.t 12)⟩,
        ⟨(some 47), none, .bin .add (.t 46) (.c (.int .i64 1))⟩,
        ⟨(some 12), none, .mv (.t 47)⟩]))))))
    (.seq (.seq (.ops [⟨(some 58), none, .mv (.t 11)⟩,
      ⟨(some 59), none, .bin .eql (.t 58) (.c (.int .i64 0))⟩])
    (.cond (.t 59)
     (.exit 0)
     .skip))
    (.ops [⟨(some 60), none, .mv (.t 0)⟩,
      ⟨(some 61), none, .mv (.t 1)⟩,
      ⟨(some 62), none, .mv (.t 2)⟩,
      ⟨(some 63), none, .bin .add (.t 62) (.c (.int .i64 1))⟩,
      ⟨(some 64), none, .callf 160 [(.t 60), (.t 61), (.t 63)]⟩,
      ⟨(some 65), none, .mv (.t 9)⟩,
      ⟨(some 66), none, .mv (.t 11)⟩,
      ⟨(some 67), none, .mv (.t 10)⟩,
      ⟨(some 68), none, .callf 169 [(.t 64), (.t 65), (.t 66), (.t 67)]⟩,
      ⟨(some 1), none, .mv (.t 68)⟩]))))))))
 (.seq (.ops [⟨(some 69), none, .mv (.t 1)⟩,
   ⟨(some 6), none, .mv (.t 69)⟩])
 .ret))))))⟩
def i162 : IFn := ⟨88, [.tmp 8],
 (.seq (.ops [⟨(some 6), none, .box 95 (.t 2)⟩,
   ⟨(some 7), none, .box 133 (.t 3)⟩,
   ⟨(some 8), none, .mv (.c .nilIface)⟩])
 (.seq (.ops [⟨(some 12), none, .mv (.t 0)⟩,
   ⟨(some 13), none, .fld 3 (.t 6)⟩,
   ⟨(some 14), none, .load1 (.t 13)⟩,
   ⟨(some 15), none, .callf 75 [(.t 12), (.t 14)]⟩,
   ⟨(some 11), none, .mv (.t 15)⟩,
   ⟨(some 16), none, .ext 0 (.t 11)⟩,
   ⟨(some 17), none, .ext 1 (.t 11)⟩,
   ⟨(some 9), none, .alloc 130 [(.str []), (.int .i64 0), (.int .i64 0), (.bool false), (.bool false), (.int .i64 0)]⟩,
   ⟨none, none, .store 6 (.t 9) (.t 16)⟩,
   ⟨(some 10), none, .mv (.t 17)⟩])
 (.seq (.block 0 (.seq (.ops [⟨(some 19), none, .mv (.t 10)⟩,
    ⟨(some 20), none, .not (.t 19)⟩,
    ⟨(some 18), none, .mv (.t 20)⟩])
  (.cond (.t 18)
   (.ops [⟨(some 21), none, .mv (.t 0)⟩,
     ⟨(some 22), none, .fld 6 (.t 6)⟩,
     ⟨(some 23), none, .load1 (.t 22)⟩,
     ⟨(some 24), none, .fld 3 (.t 6)⟩,
     ⟨(some 25), none, .load1 (.t 24)⟩,
     ⟨(some 26), none, .callf 69 [(.c (.str [101, 108, 101, 109, 101, 110, 116])), (.t 23), (.c (.int .i64 2)), (.t 25)]⟩,
     ⟨(some 27), none, .callf 68 [(.t 21), (.t 26)]⟩])
   (.seq (.ops [⟨(some 29), none, .fld 2 (.t 9)⟩,
     ⟨(some 30), none, .load1 (.t 29)⟩,
     ⟨(some 31), none, .bin .eql (.t 30) (.c (.int .i64 0))⟩,
     ⟨(some 28), none, .mv (.t 31)⟩])
   (.cond (.t 28)
    (.ops [⟨(some 32), none, .mv (.t 0)⟩,
      ⟨(some 33), none, .fld 6 (.t 6)⟩,
      ⟨(some 34), none, .load1 (.t 33)⟩,
      ⟨(some 35), none, .fld 3 (.t 6)⟩,
      ⟨(some 36), none, .load1 (.t 35)⟩,
      ⟨(some 37), none, .callf 69 [(.c (.str [101, 108, 101, 109, 101, 110, 116])), (.t 34), (.c (.int .i64 3)), (.t 36)]⟩,
      ⟨(some 38), none, .callf 68 [(.t 32), (.t 37)]⟩])
    .skip)))))
 (.seq (.block 1 (.seq (.ops [⟨(some 40), none, .fld 0 (.t 7)⟩,
    ⟨(some 41), none, .load1 (.t 40)⟩,
    ⟨(some 42), none, .not (.t 41)⟩,
    ⟨(some 39), none, .mv (.t 42)⟩])
  (.cond (.t 39)
   .skip
   (.seq (.ops [⟨(some 44), none, .fld 4 (.t 6)⟩,
     ⟨(some 45), none, .load1 (.t 44)⟩,
     ⟨(some 46), none, .bin .lss (.t 45) (.c (.int .i64 0))⟩,
     ⟨(some 47), none, .mv (.t 46)⟩,
     ⟨(some 48), some (47, false), .fld 4 (.t 6)⟩,
     ⟨(some 49), some (47, false), .load1 (.t 48)⟩,
     ⟨(some 50), some (47, false), .mv (.t 1)⟩,
     ⟨(some 51), some (47, false), .len (.t 50)⟩,
     ⟨(some 52), some (47, false), .bin .geq (.t 49) (.t 51)⟩,
     ⟨(some 53), none, .pick (.t 47) (.c (.bool true)) (.t 52)⟩,
     ⟨(some 54), none, .mv (.t 53)⟩,
     ⟨(some 55), some (54, false), .mv (.t 1)⟩,
     ⟨(some 56), some (54, false), .fld 4 (.t 6)⟩,
     ⟨(some 57), some (54, false), .load1 (.t 56)⟩,
     ⟨(some 58), some (54, false), .idx 7 (.t 55) (.t 57)⟩,
     ⟨(some 59), some (54, false), .fld 0 (.t 58)⟩,
     ⟨(some 60), some (54, false), .load1 (.t 59)⟩,
     ⟨(some 61), some (54, false), .bin .neq (.t 60) (.c (.int .i64 1))⟩,
     ⟨(some 62), none, .pick (.t 54) (.c (.bool true)) (.t 61)⟩,
     ⟨(some 43), none, .mv (.t 62)⟩])
   (.cond (.t 43)
    (.seq (.ops [⟨(some 63), none, .fld 6 (.t 6)⟩,
      ⟨(some 64), none, .load1 (.t 63)⟩,
      ⟨(some 65), none, .fld 3 (.t 6)⟩,
      ⟨(some 66), none, .load1 (.t 65)⟩,
      ⟨(some 67), none, .callf 69 [(.c (.str [105, 110, 100, 101, 120])), (.t 64), (.c (.int .i64 6)), (.t 66)]⟩,
      ⟨(some 8), none, .mv (.t 67)⟩])
    .ret)
    (.seq (.ops [⟨(some 69), none, .fld 2 (.t 9)⟩,
      ⟨(some 70), none, .load1 (.t 69)⟩,
      ⟨(some 71), none, .bin .gtr (.t 70) (.c (.int .i64 0))⟩,
      ⟨(some 72), none, .mv (.t 71)⟩,
      ⟨(some 73), some (72, true), .mv (.t 1)⟩,
      ⟨(some 74), some (72, true), .fld 4 (.t 6)⟩,
      ⟨(some 75), some (72, true), .load1 (.t 74)⟩,
      ⟨(some 76), some (72, true), .idx 7 (.t 73) (.t 75)⟩,
      ⟨(some 77), some (72, true), .fld 1 (.t 76)⟩,
      ⟨(some 78), some (72, true), .load1 (.t 77)⟩,
      ⟨(some 79), some (72, true), .fld 2 (.t 9)⟩,
      ⟨(some 80), some (72, true), .load1 (.t 79)⟩,
      ⟨(some 81), some (72, true), .bin .geq (.t 78) (.t 80)⟩,
      ⟨(some 82), none, .pick (.t 72) (.t 81) (.c (.bool false))⟩,
      ⟨(some 68), none, .mv (.t 82)⟩])
    (.cond (.t 68)
     (.seq (.ops [⟨(some 83), none, .fld 6 (.t 6)⟩,
       ⟨(some 84), none, .load1 (.t 83)⟩,
       ⟨(some 85), none, .fld 3 (.t 6)⟩,
       ⟨(some 86), none, .load1 (.t 85)⟩,
       ⟨(some 87), none, .callf 69 [(.c (.str [105, 110, 100, 101, 120])), (.t 84), (.c (.int .i64 4)), (.t 86)]⟩,
       ⟨(some 8), none, .mv (.t 87)⟩])
     .ret)
     .skip)))))))
 (.seq (.ops [⟨(some 8), none, .mv (.c .nilIface)⟩])
 .ret)))))⟩
def i163 : IFn := ⟨19, [.tmp 4],
 (.seq (.ops [⟨(some 4), none, .mv (.c (.int .i64 0))⟩])
 (.seq (.seq (.ops [⟨(some 6), none, .mv (.t 0)⟩,
   ⟨(some 7), none, .len (.t 6)⟩,
   ⟨(some 8), none, .mv (.c (.int .i64 0))⟩])
 (.block 0 (.loop (.seq (.ops [⟨(some 9), none, .bin .lss (.t 8) (.t 7)⟩])
   (.seq (.cond (.t 9)
    .skip
    (.exit 0))
   (.seq (.block 1 (.seq (.ops [⟨(some 10), none, .mv (.t 8)⟩,
      ⟨(some 5), none, .mv (.t 10)⟩])
    (.seq (.ops [⟨(some 11), none, .mv (.t 1)⟩,
      ⟨(some 12), none, .mv (.t 0)⟩,
      ⟨(some 13), none, .mv (.t 5)⟩,
      ⟨(some 14), none, .idx 8 (.t 12) (.t 13)⟩,
      ⟨(some 15), none, .loadN 8 (.t 14)⟩,
      ⟨(some 16), none, .callv (.t 11) [(.t 15)]⟩])
    (.cond (.t 16)
     (.seq (.ops [⟨(some 17), none, .mv (.t 5)⟩,
       ⟨(some 4), none, .mv (.t 17)⟩])
     .ret)
     .skip))))
   (.ops [⟨(some 18), none, .bin .add (.t 8) (.c (.int .i64 1))⟩,
     ⟨(some 8), none, .mv (.t 18)⟩])))))))
 (.seq (.ops [⟨(some 4), none, .mv (.c (.int .i64 (-1)))⟩])
 .ret)))⟩
def i164 : IFn := ⟨8, [.tmp 3],
 (.seq (.ops [⟨(some 2), none, .box 40 (.t 0)⟩,
   ⟨(some 3), none, .mv (.c (.bool false))⟩])
 (.seq (.ops [⟨(some 4), none, .fld 0 (.t 2)⟩,
   ⟨(some 5), none, .load1 (.t 4)⟩,
   ⟨(some 6), none, .load1 (.t 1)⟩,
   ⟨(some 7), none, .bin .eql (.t 5) (.t 6)⟩,
   ⟨(some 3), none, .mv (.t 7)⟩])
 .ret))⟩
def i165 : IFn := ⟨19, [.tmp 4],
 (.seq (.ops [⟨(some 4), none, .mv (.c (.int .i64 0))⟩])
 (.seq (.seq (.ops [⟨(some 6), none, .mv (.t 0)⟩,
   ⟨(some 7), none, .len (.t 6)⟩,
   ⟨(some 8), none, .mv (.c (.int .i64 0))⟩])
 (.block 0 (.loop (.seq (.ops [⟨(some 9), none, .bin .lss (.t 8) (.t 7)⟩])
   (.seq (.cond (.t 9)
    .skip
    (.exit 0))
   (.seq (.block 1 (.seq (.ops [⟨(some 10), none, .mv (.t 8)⟩,
      ⟨(some 5), none, .mv (.t 10)⟩])
    (.seq (.ops [⟨(some 11), none, .mv (.t 1)⟩,
      ⟨(some 12), none, .mv (.t 0)⟩,
      ⟨(some 13), none, .mv (.t 5)⟩,
      ⟨(some 14), none, .idx 5 (.t 12) (.t 13)⟩,
      ⟨(some 15), none, .loadN 5 (.t 14)⟩,
      ⟨(some 16), none, .callv (.t 11) [(.t 15)]⟩])
    (.cond (.t 16)
     (.seq (.ops [⟨(some 17), none, .mv (.t 5)⟩,
       ⟨(some 4), none, .mv (.t 17)⟩])
     .ret)
     .skip))))
   (.ops [⟨(some 18), none, .bin .add (.t 8) (.c (.int .i64 1))⟩,
     ⟨(some 8), none, .mv (.t 18)⟩])))))))
 (.seq (.ops [⟨(some 4), none, .mv (.c (.int .i64 (-1)))⟩])
 .ret)))⟩
def i166 : IFn := ⟨19, [.tmp 2],
 (.seq (.ops [⟨(some 2), none, .mv (.c (.int .i64 0))⟩])
 (.seq (.ops [⟨(some 5), none, .bslice 9 1 7 [(.str []), (.str []), (.str []), (.str []), (.str []), (.str []), (.str [])] [(0, 1, (.c (.str []))), (1, 1, (.c (.str [61, 61]))), (2, 1, (.c (.str [33, 61]))), (3, 1, (.c (.str [60]))), (4, 1, (.c (.str [60, 61]))), (5, 1, (.c (.str [62]))), (6, 1, (.c (.str [62, 61])))]⟩,
   ⟨(some 3), none, .mv (.t 5)⟩])
 (.seq (.seq (.ops [⟨(some 4), none, .mv (.c (.int .i64 1))⟩])
 (.block 0 (.loop (.seq (.seq (.ops [⟨(some 6), none, .mv (.t 4)⟩,
     ⟨(some 7), none, .mv (.t 3)⟩,
     ⟨(some 8), none, .len (.t 7)⟩,
     ⟨(some 9), none, .bin .lss (.t 6) (.t 8)⟩])
   (.cond (.t 9)
    .skip
    (.exit 0)))
   (.seq (.block 1 (.seq (.ops [⟨(some 12), none, .mv (.t 3)⟩,
      ⟨(some 13), none, .mv (.t 4)⟩,
      ⟨(some 14), none, .idx 1 (.t 12) (.t 13)⟩,
      ⟨(some 15), none, .load1 (.t 14)⟩,
      ⟨(some 16), none, .mv (.t 0)⟩,
      ⟨(some 17), none, .bin .eql (.t 15) (.t 16)⟩])
    (.cond (.t 17)
     (.seq (.ops [⟨(some 18), none, .mv (.t 4)⟩,
       ⟨(some 2), none, .mv (.t 18)⟩])
     .ret)
     .skip)))
   (.ops [⟨(some 10), none, .mv (.t 4)⟩,
     ⟨(some 11), none, .bin .add (.t 10) (.c (.int .i64 1))⟩,
     ⟨(some 4), none, .mv (.t 11)⟩]))))))
 (.seq (.ops [⟨(some 2), none, .mv (.c (.int .i64 0))⟩])
 .ret))))⟩
def i167 : IFn := ⟨187, [.tmp 4],
 (.seq (.ops [⟨(some 4), none, .mv (.c .nils)⟩])
 (.seq (.seq (.ops [⟨(some 10), none, .mv (.t 0)⟩,
   ⟨(some 11), none, .nilchk (.t 10)⟩,
   ⟨(some 12), none, .fld 3 (.t 11)⟩,
   ⟨(some 13), none, .load1 (.t 12)⟩,
   ⟨(some 14), none, .bin .neq (.t 13) (.c (.int .i64 0))⟩])
 (.cond (.t 14)
  (.seq (.ops [⟨(some 15), none, .mv (.t 1)⟩,
    ⟨(some 4), none, .mv (.t 15)⟩])
  .ret)
  .skip))
 (.seq (.ops [⟨(some 16), none, .mv (.t 0)⟩,
   ⟨(some 17), none, .nilchk (.t 16)⟩,
   ⟨(some 18), none, .fld 0 (.t 17)⟩,
   ⟨(some 19), none, .load1 (.t 18)⟩,
   ⟨(some 20), none, .mv (.t 0)⟩,
   ⟨(some 21), none, .nilchk (.t 20)⟩,
   ⟨(some 22), none, .fld 1 (.t 21)⟩,
   ⟨(some 23), none, .load1 (.t 22)⟩,
   ⟨(some 24), none, .idx 3 (.t 19) (.t 23)⟩,
   ⟨(some 25), none, .loadN 3 (.t 24)⟩,
   ⟨(some 5), none, .alloc 101 [(.int .i64 0), (.str []), (.int .i64 0)]⟩,
   ⟨none, none, .store 3 (.t 5) (.t 25)⟩])
 (.seq (.block 0 (.seq (.ops [⟨(some 27), none, .mv (.t 0)⟩,
    ⟨(some 28), none, .callf 92 [(.t 27), (.c (.str [45]))]⟩,
    ⟨(some 29), none, .mv (.t 28)⟩,
    ⟨(some 30), some (29, false), .mv (.t 0)⟩,
    ⟨(some 31), some (29, false), .callf 92 [(.t 30), (.c (.str [126]))]⟩,
    ⟨(some 32), none, .pick (.t 29) (.c (.bool true)) (.t 31)⟩,
    ⟨(some 26), none, .mv (.t 32)⟩])
  (.cond (.t 26)
   (.seq (.ops [⟨(some 6), none, .mv (.c (.int .i64 6))⟩])
   (.seq (.seq (.ops [⟨(some 33), none, .fld 1 (.t 5)⟩,
     ⟨(some 34), none, .load1 (.t 33)⟩,
     ⟨(some 35), none, .bin .eql (.t 34) (.c (.str [126]))⟩])
   (.cond (.t 35)
    (.ops [⟨(some 6), none, .mv (.c (.int .i64 7))⟩])
    .skip))
   (.seq (.ops [⟨(some 36), none, .mv (.t 0)⟩,
     ⟨(some 37), none, .fld 1 (.t 5)⟩,
     ⟨(some 38), none, .load1 (.t 37)⟩,
     ⟨(some 39), none, .callf 123 [(.t 36), (.t 38)]⟩])
   (.seq (.ops [⟨(some 40), none, .mv (.t 0)⟩,
     ⟨(some 41), none, .mv (.t 1)⟩,
     ⟨(some 42), none, .callf 167 [(.t 40), (.t 41)]⟩,
     ⟨(some 1), none, .mv (.t 42)⟩])
   (.seq (.ops [⟨(some 43), none, .mv (.t 0)⟩,
     ⟨(some 44), none, .nilchk (.t 43)⟩,
     ⟨(some 45), none, .fld 2 (.t 44)⟩,
     ⟨(some 46), none, .load1 (.t 45)⟩,
     ⟨(some 47), none, .bin .sub (.t 46) (.c (.int .i64 1))⟩,
     ⟨(some 48), none, .nilchk (.t 43)⟩,
     ⟨(some 49), none, .fld 2 (.t 48)⟩,
     ⟨none, none, .store 1 (.t 49) (.t 47)⟩])
   (.seq (.ops [⟨(some 50), none, .mv (.t 1)⟩,
     ⟨(some 51), none, .mv (.t 6)⟩,
     ⟨(some 52), none, .mv (.t 1)⟩,
     ⟨(some 53), none, .len (.t 52)⟩,
     ⟨(some 54), none, .bin .sub (.t 53) (.c (.int .i64 1))⟩,
     ⟨(some 55), none, .fld 2 (.t 5)⟩,
     ⟨(some 56), none, .load1 (.t 55)⟩,
     ⟨(some 57), none, .build [(.int .i64 0), (.int .i64 0), (.int .i64 0), (.str []), (.int .i64 0), (.int .i64 0), (.int .i64 0)] [(0, 1, (.t 51)), (4, 1, (.t 54)), (5, 1, (.c (.int .i64 (-1)))), (6, 1, (.t 56))]⟩,
     ⟨(some 58), none, .bslice 95 7 1 [(.int .i64 0), (.int .i64 0), (.int .i64 0), (.str []), (.int .i64 0), (.int .i64 0), (.int .i64 0)] [(0, 7, (.t 57))]⟩,
     ⟨(some 59), none, .append 95 7 64 (.t 50) (.t 58)⟩,
     ⟨(some 4), none, .mv (.t 59)⟩])
   .ret))))))
   (.seq (.ops [⟨(some 61), none, .mv (.t 0)⟩,
     ⟨(some 62), none, .callf 92 [(.t 61), (.c (.str [40]))]⟩,
     ⟨(some 60), none, .mv (.t 62)⟩])
   (.cond (.t 60)
    (.seq (.ops [⟨(some 63), none, .mv (.t 0)⟩,
      ⟨(some 64), none, .mv (.t 1)⟩,
      ⟨(some 65), none, .callf 159 [(.t 63), (.t 64), (.c (.str [40])), (.c (.str [41]))]⟩,
      ⟨(some 4), none, .mv (.t 65)⟩])
    .ret)
    (.seq (.ops [⟨(some 67), none, .fld 0 (.t 5)⟩,
      ⟨(some 68), none, .load1 (.t 67)⟩,
      ⟨(some 69), none, .bin .eql (.t 68) (.c (.int .i64 2))⟩,
      ⟨(some 66), none, .mv (.t 69)⟩])
    (.cond (.t 66)
     (.seq (.ops [⟨(some 70), none, .mv (.t 0)⟩,
       ⟨(some 71), none, .nilchk (.t 70)⟩,
       ⟨(some 72), none, .fld 1 (.t 71)⟩,
       ⟨(some 73), none, .load1 (.t 72)⟩,
       ⟨(some 74), none, .bin .add (.t 73) (.c (.int .i64 1))⟩,
       ⟨(some 75), none, .nilchk (.t 70)⟩,
       ⟨(some 76), none, .fld 1 (.t 75)⟩,
       ⟨none, none, .store 1 (.t 76) (.t 74)⟩])
     (.seq (.ops [⟨(some 78), none, .fld 1 (.t 5)⟩,
       ⟨(some 79), none, .load1 (.t 78)⟩,
       ⟨(some 80), none, .callf 91 [(.t 79)]⟩,
       ⟨(some 77), none, .mv (.t 80)⟩,
       ⟨(some 81), none, .ext 0 (.t 77)⟩,
       ⟨(some 82), none, .ext 1 (.t 77)⟩,
       ⟨(some 83), none, .ext 2 (.t 77)⟩,
       ⟨(some 7), none, .mv (.t 81)⟩,
       ⟨(some 8), none, .mv (.t 82)⟩,
       ⟨(some 9), none, .mv (.t 83)⟩])
     (.seq (.ops [⟨(some 84), none, .mv (.t 1)⟩,
       ⟨(some 85), none, .mv (.t 7)⟩,
       ⟨(some 86), none, .mv (.t 8)⟩,
       ⟨(some 87), none, .fld 2 (.t 5)⟩,
       ⟨(some 88), none, .load1 (.t 87)⟩,
       ⟨(some 89), none, .build [(.int .i64 0), (.int .i64 0), (.int .i64 0), (.str []), (.int .i64 0), (.int .i64 0), (.int .i64 0)] [(0, 1, (.c (.int .i64 1))), (1, 1, (.t 85)), (2, 1, (.t 86)), (4, 1, (.c (.int .i64 (-1)))), (5, 1, (.c (.int .i64 (-1)))), (6, 1, (.t 88))]⟩,
       ⟨(some 90), none, .bslice 95 7 1 [(.int .i64 0), (.int .i64 0), (.int .i64 0), (.str []), (.int .i64 0), (.int .i64 0), (.int .i64 0)] [(0, 7, (.t 89))]⟩,
       ⟨(some 91), none, .append 95 7 64 (.t 84) (.t 90)⟩,
       ⟨(some 4), none, .mv (.t 91)⟩])
     .ret)))
     (.seq (.ops [⟨(some 93), none, .fld 0 (.t 5)⟩,
       ⟨(some 94), none, .load1 (.t 93)⟩,
       ⟨(some 95), none, .bin .eql (.t 94) (.c (.int .i64 1))⟩,
       ⟨(some 92), none, .mv (.t 95)⟩])
     (.cond (.t 92)
      (.seq (.ops [⟨(some 96), none, .mv (.t 0)⟩,
        ⟨(some 97), none, .nilchk (.t 96)⟩,
        ⟨(some 98), none, .fld 1 (.t 97)⟩,
        ⟨(some 99), none, .load1 (.t 98)⟩,
        ⟨(some 100), none, .bin .add (.t 99) (.c (.int .i64 1))⟩,
        ⟨(some 101), none, .nilchk (.t 96)⟩,
        ⟨(some 102), none, .fld 1 (.t 101)⟩,
        ⟨none, none, .store 1 (.t 102) (.t 100)⟩])
      (.seq (.seq (.ops [⟨(some 103), none, .mv (.t 0)⟩,
        ⟨(some 104), none, .callf 92 [(.t 103), (.c (.str [91]))]⟩,
        ⟨(some 105), none, .not (.t 104)⟩])
      (.cond (.t 105)
       (.seq (.ops [⟨(some 106), none, .mv (.t 1)⟩,
         ⟨(some 107), none, .fld 1 (.t 5)⟩,
         ⟨(some 108), none, .load1 (.t 107)⟩,
         ⟨(some 109), none, .fld 2 (.t 5)⟩,
         ⟨(some 110), none, .load1 (.t 109)⟩,
         ⟨(some 111), none, .build [(.int .i64 0), (.int .i64 0), (.int .i64 0), (.str []), (.int .i64 0), (.int .i64 0), (.int .i64 0)] [(0, 1, (.c (.int .i64 2))), (3, 1, (.t 108)), (4, 1, (.c (.int .i64 (-1)))), (5, 1, (.c (.int .i64 (-1)))), (6, 1, (.t 110))]⟩,
         ⟨(some 112), none, .bslice 95 7 1 [(.int .i64 0), (.int .i64 0), (.int .i64 0), (.str []), (.int .i64 0), (.int .i64 0), (.int .i64 0)] [(0, 7, (.t 111))]⟩,
         ⟨(some 113), none, .append 95 7 64 (.t 106) (.t 112)⟩,
         ⟨(some 4), none, .mv (.t 113)⟩])
       .ret)
       .skip))
      (.seq (.ops [⟨(some 114), none, .mv (.t 0)⟩,
        ⟨(some 115), none, .mv (.t 1)⟩,
        ⟨(some 116), none, .callf 159 [(.t 114), (.t 115), (.c (.str [91])), (.c (.str [93]))]⟩,
        ⟨(some 1), none, .mv (.t 116)⟩])
      (.seq (.ops [⟨(some 117), none, .mv (.t 1)⟩,
        ⟨(some 118), none, .fld 1 (.t 5)⟩,
        ⟨(some 119), none, .load1 (.t 118)⟩,
        ⟨(some 120), none, .mv (.t 1)⟩,
        ⟨(some 121), none, .len (.t 120)⟩,
        ⟨(some 122), none, .bin .sub (.t 121) (.c (.int .i64 1))⟩,
        ⟨(some 123), none, .fld 2 (.t 5)⟩,
        ⟨(some 124), none, .load1 (.t 123)⟩,
        ⟨(some 125), none, .build [(.int .i64 0), (.int .i64 0), (.int .i64 0), (.str []), (.int .i64 0), (.int .i64 0), (.int .i64 0)] [(0, 1, (.c (.int .i64 3))), (3, 1, (.t 119)), (4, 1, (.t 122)), (5, 1, (.c (.int .i64 (-1)))), (6, 1, (.t 124))]⟩,
        ⟨(some 126), none, .bslice 95 7 1 [(.int .i64 0), (.int .i64 0), (.int .i64 0), (.str []), (.int .i64 0), (.int .i64 0), (.int .i64 0)] [(0, 7, (.t 125))]⟩,
        ⟨(some 127), none, .append 95 7 64 (.t 117) (.t 126)⟩,
        ⟨(some 4), none, .mv (.t 127)⟩])
      .ret))))
      (.seq (.ops [⟨(some 129), none, .mv (.t 0)⟩,
        ⟨(some 130), none, .callf 55 [(.t 129), (.c (.str [111, 108, 100]))]⟩,
        ⟨(some 128), none, .mv (.t 130)⟩])
      (.cond (.t 128)
       (.seq (.ops [⟨(some 131), none, .mv (.t 0)⟩,
         ⟨(some 132), none, .mv (.t 1)⟩,
         ⟨(some 133), none, .callf 159 [(.t 131), (.t 132), (.c (.str [40])), (.c (.str [41]))]⟩,
         ⟨(some 1), none, .mv (.t 133)⟩])
       (.seq (.ops [⟨(some 134), none, .mv (.t 1)⟩,
         ⟨(some 135), none, .mv (.t 1)⟩,
         ⟨(some 136), none, .len (.t 135)⟩,
         ⟨(some 137), none, .bin .sub (.t 136) (.c (.int .i64 1))⟩,
         ⟨(some 138), none, .fld 2 (.t 5)⟩,
         ⟨(some 139), none, .load1 (.t 138)⟩,
         ⟨(some 140), none, .build [(.int .i64 0), (.int .i64 0), (.int .i64 0), (.str []), (.int .i64 0), (.int .i64 0), (.int .i64 0)] [(0, 1, (.c (.int .i64 4))), (4, 1, (.t 137)), (5, 1, (.c (.int .i64 (-1)))), (6, 1, (.t 139))]⟩,
         ⟨(some 141), none, .bslice 95 7 1 [(.int .i64 0), (.int .i64 0), (.int .i64 0), (.str []), (.int .i64 0), (.int .i64 0), (.int .i64 0)] [(0, 7, (.t 140))]⟩,
         ⟨(some 142), none, .append 95 7 64 (.t 134) (.t 141)⟩,
         ⟨(some 4), none, .mv (.t 142)⟩])
       .ret))
       (.seq (.ops [⟨(some 144), none, .mv (.t 0)⟩,
         ⟨(some 145), none, .callf 55 [(.t 144), (.c (.str [114, 101, 115, 117, 108, 116]))]⟩,
         ⟨(some 143), none, .mv (.t 145)⟩])
       (.cond (.t 143)
        (.seq (.ops [⟨(some 146), none, .mv (.t 1)⟩,
          ⟨(some 147), none, .fld 2 (.t 5)⟩,
          ⟨(some 148), none, .load1 (.t 147)⟩,
          ⟨(some 149), none, .build [(.int .i64 0), (.int .i64 0), (.int .i64 0), (.str []), (.int .i64 0), (.int .i64 0), (.int .i64 0)] [(0, 1, (.c (.int .i64 5))), (4, 1, (.c (.int .i64 (-1)))), (5, 1, (.c (.int .i64 (-1)))), (6, 1, (.t 148))]⟩,
          ⟨(some 150), none, .bslice 95 7 1 [(.int .i64 0), (.int .i64 0), (.int .i64 0), (.str []), (.int .i64 0), (.int .i64 0), (.int .i64 0)] [(0, 7, (.t 149))]⟩,
          ⟨(some 151), none, .append 95 7 64 (.t 146) (.t 150)⟩,
          ⟨(some 4), none, .mv (.t 151)⟩])
        .ret)
        (.seq (.ops [⟨(some 153), none, .fld 0 (.t 5)⟩,
          ⟨(some 154), none, .load1 (.t 153)⟩,
          ⟨(some 155), none, .bin .eql (.t 154) (.c (.int .i64 3))⟩,
          ⟨(some 156), none, .mv (.t 155)⟩,
          ⟨(some 157), some (156, true), .fld 1 (.t 5)⟩,
          ⟨(some 158), some (156, true), .load1 (.t 157)⟩,
          ⟨(some 159), some (156, true), .callf 90 [(.t 158)]⟩,
          ⟨(some 160), some (156, true), .bin .gtr (.t 159) (.c (.int .i64 0))⟩,
          ⟨(some 161), none, .pick (.t 156) (.t 160) (.c (.bool false))⟩,
          ⟨(some 152), none, .mv (.t 161)⟩])
        (.cond (.t 152)
         (.seq (.ops [⟨(some 162), none, .mv (.t 0)⟩,
           ⟨(some 163), none, .nilchk (.t 162)⟩,
           ⟨(some 164), none, .fld 1 (.t 163)⟩,
           ⟨(some 165), none, .load1 (.t 164)⟩,
           ⟨(some 166), none, .bin .add (.t 165) (.c (.int .i64 1))⟩,
           ⟨(some 167), none, .nilchk (.t 162)⟩,
           ⟨(some 168), none, .fld 1 (.t 167)⟩,
           ⟨none, none, .store 1 (.t 168) (.t 166)⟩])
         (.seq (.ops [⟨(some 169), none, .mv (.t 0)⟩,
           ⟨(some 170), none, .mv (.t 1)⟩,
           ⟨(some 171), none, .callf 159 [(.t 169), (.t 170), (.c (.str [40])), (.c (.str [41]))]⟩,
           ⟨(some 1), none, .mv (.t 171)⟩])
         (.seq (.ops [⟨(some 172), none, .mv (.t 1)⟩,
           ⟨(some 173), none, .fld 1 (.t 5)⟩,
           ⟨(some 174), none, .load1 (.t 173)⟩,
           ⟨(some 176), none, .mv (.t 1)⟩,
           ⟨(some 177), none, .len (.t 176)⟩,
           ⟨(some 178), none, .bin .sub (.t 177) (.c (.int .i64 1))⟩,
           ⟨(some 179), none, .fld 2 (.t 5)⟩,
           ⟨(some 180), none, .load1 (.t 179)⟩,
           ⟨(some 175), none, .callf 90 [(.t 174)]⟩,
           ⟨none, none, .again 180 (.load1 (.t 179))⟩,
           ⟨(some 181), none, .build [(.int .i64 0), (.int .i64 0), (.int .i64 0), (.str []), (.int .i64 0), (.int .i64 0), (.int .i64 0)] [(0, 1, (.c (.int .i64 18))), (2, 1, (.t 175)), (4, 1, (.t 178)), (5, 1, (.c (.int .i64 (-1)))), (6, 1, (.t 180))]⟩,
           ⟨(some 182), none, .bslice 95 7 1 [(.int .i64 0), (.int .i64 0), (.int .i64 0), (.str []), (.int .i64 0), (.int .i64 0), (.int .i64 0)] [(0, 7, (.t 181))]⟩,
           ⟨(some 183), none, .append 95 7 64 (.t 172) (.t 182)⟩,
           ⟨(some 4), none, .mv (.t 183)⟩])
         .ret)))
         .skip)))))))))))))))
 (.seq (.ops [⟨(some 184), none, .mv (.t 0)⟩,
   ⟨(some 185), none, .callf 58 [(.t 184), (.c (.int .i64 5))]⟩])
 (.seq (.ops [⟨(some 186), none, .mv (.t 1)⟩,
   ⟨(some 4), none, .mv (.t 186)⟩])
 .ret))))))⟩
def i168 : IFn := ⟨19, [.tmp 2, .tmp 3],
 (.seq (.ops [⟨(some 2), none, .mv (.c .nils)⟩,
   ⟨(some 3), none, .mv (.c .nils)⟩])
 (.seq (.seq (.ops [⟨(some 4), none, .mv (.t 0)⟩])
 (.block 0 (.seq (.ops [⟨(some 6), none, .bin .eql (.t 4) (.c (.int .i64 0))⟩,
    ⟨(some 5), none, .mv (.t 6)⟩])
  (.cond (.t 5)
   (.seq (.ops [⟨(some 7), none, .bslice 9 1 3 [(.str []), (.str []), (.str [])] [(0, 1, (.c (.str [38]))), (1, 1, (.c (.str [124]))), (2, 1, (.c (.str [94])))]⟩,
     ⟨(some 8), none, .bslice 3 1 3 [(.int .i64 0), (.int .i64 0), (.int .i64 0)] [(0, 1, (.c (.int .i64 13))), (1, 1, (.c (.int .i64 14))), (2, 1, (.c (.int .i64 15)))]⟩,
     ⟨(some 2), none, .mv (.t 7)⟩,
     ⟨(some 3), none, .mv (.t 8)⟩])
   .ret)
   (.seq (.ops [⟨(some 10), none, .bin .eql (.t 4) (.c (.int .i64 1))⟩,
     ⟨(some 9), none, .mv (.t 10)⟩])
   (.cond (.t 9)
    (.seq (.ops [⟨(some 11), none, .bslice 9 1 2 [(.str []), (.str [])] [(0, 1, (.c (.str [60, 60]))), (1, 1, (.c (.str [62, 62])))]⟩,
      ⟨(some 12), none, .bslice 3 1 2 [(.int .i64 0), (.int .i64 0)] [(0, 1, (.c (.int .i64 16))), (1, 1, (.c (.int .i64 17)))]⟩,
      ⟨(some 2), none, .mv (.t 11)⟩,
      ⟨(some 3), none, .mv (.t 12)⟩])
    .ret)
    (.seq (.ops [⟨(some 14), none, .bin .eql (.t 4) (.c (.int .i64 2))⟩,
      ⟨(some 13), none, .mv (.t 14)⟩])
    (.cond (.t 13)
     (.seq (.ops [⟨(some 15), none, .bslice 9 1 2 [(.str []), (.str [])] [(0, 1, (.c (.str [43]))), (1, 1, (.c (.str [45])))]⟩,
       ⟨(some 16), none, .bslice 3 1 2 [(.int .i64 0), (.int .i64 0)] [(0, 1, (.c (.int .i64 8))), (1, 1, (.c (.int .i64 9)))]⟩,
       ⟨(some 2), none, .mv (.t 15)⟩,
       ⟨(some 3), none, .mv (.t 16)⟩])
     .ret)
     .skip))))))))
 (.seq (.ops [⟨(some 17), none, .bslice 9 1 3 [(.str []), (.str []), (.str [])] [(0, 1, (.c (.str [42]))), (1, 1, (.c (.str [47]))), (2, 1, (.c (.str [37])))]⟩,
   ⟨(some 18), none, .bslice 3 1 3 [(.int .i64 0), (.int .i64 0), (.int .i64 0)] [(0, 1, (.c (.int .i64 10))), (1, 1, (.c (.int .i64 11))), (2, 1, (.c (.int .i64 12)))]⟩,
   ⟨(some 2), none, .mv (.t 17)⟩,
   ⟨(some 3), none, .mv (.t 18)⟩])
 .ret)))⟩
def i169 : IFn := ⟨19, [.tmp 8],
 (.seq (.ops [⟨(some 8), none, .mv (.c .nils)⟩])
 (.seq (.ops [⟨(some 9), none, .mv (.t 0)⟩,
   ⟨(some 10), none, .mv (.t 2)⟩,
   ⟨(some 11), none, .mv (.t 1)⟩,
   ⟨(some 12), none, .mv (.t 0)⟩,
   ⟨(some 13), none, .len (.t 12)⟩,
   ⟨(some 14), none, .bin .sub (.t 13) (.c (.int .i64 1))⟩,
   ⟨(some 15), none, .mv (.t 3)⟩,
   ⟨(some 16), none, .build [(.int .i64 0), (.int .i64 0), (.int .i64 0), (.str []), (.int .i64 0), (.int .i64 0), (.int .i64 0)] [(0, 1, (.t 10)), (4, 1, (.t 11)), (5, 1, (.t 14)), (6, 1, (.t 15))]⟩,
   ⟨(some 17), none, .bslice 95 7 1 [(.int .i64 0), (.int .i64 0), (.int .i64 0), (.str []), (.int .i64 0), (.int .i64 0), (.int .i64 0)] [(0, 7, (.t 16))]⟩,
   ⟨(some 18), none, .append 95 7 64 (.t 9) (.t 17)⟩,
   ⟨(some 8), none, .mv (.t 18)⟩])
 .ret))⟩

def rows : List (Nat × IFn) := [(4, i4), (5, i5), (6, i6), (9, i9), (10, i10), (12, i12), (16, i16), (23, i23), (24, i24), (25, i25), (32, i32), (33, i33), (34, i34), (37, i37), (38, i38), (50, i50), (51, i51), (52, i52), (53, i53), (54, i54), (55, i55), (56, i56), (57, i57), (58, i58), (66, i66), (67, i67), (68, i68), (69, i69), (70, i70), (71, i71), (72, i72), (73, i73), (74, i74), (76, i76), (82, i82), (84, i84), (90, i90), (91, i91), (92, i92), (93, i93), (94, i94), (95, i95), (96, i96), (97, i97), (98, i98), (99, i99), (100, i100), (101, i101), (102, i102), (104, i104), (105, i105), (106, i106), (107, i107), (109, i109), (120, i120), (121, i121), (122, i122), (123, i123), (124, i124), (129, i129), (130, i130), (132, i132), (133, i133), (134, i134), (135, i135), (136, i136), (142, i142), (143, i143), (144, i144), (145, i145), (146, i146), (147, i147), (152, i152), (153, i153), (154, i154), (155, i155), (156, i156), (157, i157), (158, i158), (159, i159), (160, i160), (162, i162), (163, i163), (164, i164), (165, i165), (166, i166), (167, i167), (168, i168), (169, i169)]
end Ev.R5
