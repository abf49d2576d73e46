/- Part 1 of the proof. Two rows of cells are the same exactly if their deltas are, and then their texts are the same too (CellsApart). The one condition: the arguments hold together at most 2^20 data, as the statement's own bound says. -/
import Derived.Test.YtbadbkdpnbacnaaDoorP
import Derived.Test.YtbadbkdpnbacnaaDoorProg
import Derived.KernelRfl
import Derived.Test.YtbadbkdpnbacnaaDoorW

/- The abstract code of functions of the program, and that it is theirs. No condition. Printed by a program (wip/Print.lean, wip/mkfns.py). -/
namespace Go.Proofs.YtbadbkdpnbacnaaDoor.Fw
open Go

/-- rubric/rubriclaw15.OpsFits -/
def fn3 : AFn := ⟨117,
 (.seq
  (.region [⟨some 10, none, .ex (.mov) [.k (.bool false)]⟩])
  (.seq
   (.seq
    (.region [⟨some 17, none, .ex (.mov) [.s 0]⟩,
      ⟨some 18, none, .ex (.mov) [.s 1]⟩,
      ⟨some 19, none, .ex (.bsl 1 1 [.nils] [(0, 1)]) [.s 18]⟩,
      ⟨some 20, none, .callf 7 [.s 17, .s 19]⟩,
      ⟨some 21, none, .ex (.mov) [.s 20]⟩,
      ⟨some 22, some (21, false), .ex (.mov) [.s 2]⟩,
      ⟨some 23, some (21, false), .ex (.ibin .lss) [.s 22, .k (.int .i64 1)]⟩,
      ⟨some 24, none, .ex (.pick) [.s 21, .k (.bool true), .s 23]⟩,
      ⟨some 25, none, .ex (.mov) [.s 24]⟩,
      ⟨some 26, some (25, false), .ex (.mov) [.s 2]⟩,
      ⟨some 27, some (25, false), .ex (.ibin .gtr) [.s 26, .k (.int .i64 1073741824)]⟩,
      ⟨some 28, none, .ex (.pick) [.s 25, .k (.bool true), .s 27]⟩,
      ⟨some 29, none, .ex (.mov) [.s 28]⟩,
      ⟨some 30, some (29, false), .ex (.mov) [.s 3]⟩,
      ⟨some 31, some (29, false), .ex (.mov) [.s 2]⟩,
      ⟨some 32, some (29, false), .ex (.ibin .lss) [.s 30, .s 31]⟩,
      ⟨some 33, none, .ex (.pick) [.s 29, .k (.bool true), .s 32]⟩,
      ⟨some 34, none, .ex (.mov) [.s 33]⟩,
      ⟨some 35, some (34, false), .ex (.mov) [.s 3]⟩,
      ⟨some 36, some (34, false), .ex (.ibin .gtr) [.s 35, .k (.int .i64 1073741824)]⟩,
      ⟨some 37, none, .ex (.pick) [.s 34, .k (.bool true), .s 36]⟩,
      ⟨some 38, none, .ex (.mov) [.s 37]⟩,
      ⟨some 39, some (38, false), .ex (.mov) [.s 4]⟩,
      ⟨some 40, some (38, false), .ex (.ibin .lss) [.s 39, .k (.int .i64 0)]⟩,
      ⟨some 41, none, .ex (.pick) [.s 38, .k (.bool true), .s 40]⟩,
      ⟨some 42, none, .ex (.mov) [.s 41]⟩,
      ⟨some 43, some (42, false), .ex (.mov) [.s 4]⟩,
      ⟨some 44, some (42, false), .ex (.ibin .gtr) [.s 43, .k (.int .i64 1073741824)]⟩,
      ⟨some 45, none, .ex (.pick) [.s 42, .k (.bool true), .s 44]⟩])
    (.cond (.s 45)
     (.seq
      (.region [⟨some 46, none, .callf 8 []⟩,
        ⟨some 10, none, .ex (.mov) [.s 46]⟩])
      .ret)
     .skip))
   (.seq
    (.region [⟨some 48, none, .ex (.mov) [.s 0]⟩,
      ⟨some 49, none, .callf 9 [.s 48]⟩,
      ⟨some 47, none, .ex (.mov) [.s 49]⟩,
      ⟨some 50, none, .ex (.ext 0) [.s 47]⟩,
      ⟨some 51, none, .ex (.ext 1) [.s 47]⟩,
      ⟨some 11, none, .ex (.mov) [.s 50]⟩,
      ⟨some 12, none, .ex (.mov) [.s 51]⟩])
    (.seq
     (.seq
      (.region [⟨some 52, none, .ex (.mov) [.s 12]⟩,
        ⟨some 53, none, .ex (.ibin .neq) [.s 52, .k (.int .i64 0)]⟩])
      (.cond (.s 53)
       (.seq
        (.region [⟨some 54, none, .callf 8 []⟩,
          ⟨some 10, none, .ex (.mov) [.s 54]⟩])
        .ret)
       .skip))
     (.seq
      (.region [⟨some 55, none, .ex (.mov) [.s 11]⟩,
        ⟨some 56, none, .ex (.mov) [.s 1]⟩,
        ⟨some 57, none, .ex (.mov) [.s 2]⟩,
        ⟨some 58, none, .ex (.mov) [.s 3]⟩,
        ⟨some 59, none, .callf 10 [.s 55, .s 56, .s 57, .s 58]⟩,
        ⟨some 13, none, .ex (.mov) [.s 59]⟩])
      (.seq
       (.region [⟨some 60, none, .ex (.mov) [.s 11]⟩,
         ⟨some 61, none, .ex (.mov) [.s 1]⟩,
         ⟨some 62, none, .ex (.mov) [.s 2]⟩,
         ⟨some 63, none, .ex (.mov) [.s 3]⟩,
         ⟨some 64, none, .ex (.mov) [.s 4]⟩,
         ⟨some 65, none, .ex (.ibin .add) [.s 63, .s 64]⟩,
         ⟨some 66, none, .callf 10 [.s 60, .s 61, .s 62, .s 65]⟩,
         ⟨some 14, none, .ex (.mov) [.s 66]⟩])
       (.seq
        (.region [⟨some 67, none, .ex (.mov) [.s 11]⟩,
          ⟨some 68, none, .ex (.mov) [.s 1]⟩,
          ⟨some 69, none, .ex (.mov) [.s 2]⟩,
          ⟨some 70, none, .ex (.mov) [.s 4]⟩,
          ⟨some 71, none, .ex (.ibin .add) [.s 69, .s 70]⟩,
          ⟨some 72, none, .ex (.mov) [.s 3]⟩,
          ⟨some 73, none, .ex (.mov) [.s 4]⟩,
          ⟨some 74, none, .ex (.ibin .add) [.s 72, .s 73]⟩,
          ⟨some 75, none, .callf 10 [.s 67, .s 68, .s 71, .s 74]⟩,
          ⟨some 15, none, .ex (.mov) [.s 75]⟩])
        (.seq
         (.seq
          (.region [⟨some 76, none, .ex (.mov) [.s 13]⟩,
            ⟨some 77, none, .ex (.ibin .neq) [.s 76, .k (.int .i64 0)]⟩])
          (.cond (.s 77)
           (.seq
            (.region [⟨some 78, none, .ex (.mov) [.s 14]⟩,
              ⟨some 79, none, .ex (.mov) [.s 13]⟩,
              ⟨some 80, none, .ex (.ibin .eql) [.s 78, .s 79]⟩,
              ⟨some 81, none, .ex (.mov) [.s 80]⟩,
              ⟨some 82, some (81, false), .ex (.mov) [.s 13]⟩,
              ⟨some 83, some (81, false), .ex (.ibin .eql) [.s 82, .k (.int .i64 8)]⟩,
              ⟨some 84, some (81, false), .ex (.mov) [.s 83]⟩,
              ⟨some 85, some (84, true), .ex (.mov) [.s 14]⟩,
              ⟨some 86, some (84, true), .ex (.ibin .eql) [.s 85, .k (.int .i64 0)]⟩,
              ⟨some 87, some (81, false), .ex (.pick) [.s 84, .s 86, .k (.bool false)]⟩,
              ⟨some 88, none, .ex (.pick) [.s 81, .k (.bool true), .s 87]⟩,
              ⟨some 89, none, .ex (.mov) [.s 88]⟩,
              ⟨some 90, some (89, true), .callf 8 []⟩,
              ⟨some 91, none, .ex (.pick) [.s 89, .s 90, .k (.bool false)]⟩,
              ⟨some 10, none, .ex (.mov) [.s 91]⟩])
            .ret)
           .skip))
         (.seq
          (.region [⟨some 92, none, .ex (.mov) [.s 2]⟩,
            ⟨some 93, none, .ex (.mov) [.s 1]⟩,
            ⟨some 94, none, .callf 11 [.s 93]⟩,
            ⟨some 95, none, .ex (.ibin .sub) [.s 92, .s 94]⟩,
            ⟨some 96, none, .ex (.mov) [.s 1]⟩,
            ⟨some 97, none, .callf 12 [.s 96]⟩,
            ⟨some 98, none, .ex (.ibin .add) [.s 95, .s 97]⟩,
            ⟨some 16, none, .ex (.mov) [.s 98]⟩])
          (.seq
           (.region [⟨some 99, none, .ex (.mov) [.s 14]⟩,
             ⟨some 100, none, .ex (.ibin .eql) [.s 99, .k (.int .i64 0)]⟩,
             ⟨some 101, none, .ex (.mov) [.s 100]⟩,
             ⟨some 102, some (101, true), .ex (.mov) [.s 15]⟩,
             ⟨some 103, some (101, true), .ex (.ibin .eql) [.s 102, .k (.int .i64 0)]⟩,
             ⟨some 104, none, .ex (.pick) [.s 101, .s 103, .k (.bool false)]⟩,
             ⟨some 105, none, .ex (.mov) [.s 104]⟩,
             ⟨some 106, some (105, true), .ex (.mov) [.s 16]⟩,
             ⟨some 107, some (105, true), .ex (.ibin .geq) [.s 106, .k (.int .i64 1)]⟩,
             ⟨some 108, none, .ex (.pick) [.s 105, .s 107, .k (.bool false)]⟩,
             ⟨some 109, none, .ex (.mov) [.s 108]⟩,
             ⟨some 110, some (109, true), .ex (.mov) [.s 16]⟩,
             ⟨some 111, some (109, true), .ex (.mov) [.s 3]⟩,
             ⟨some 112, some (109, true), .ex (.ibin .leq) [.s 110, .s 111]⟩,
             ⟨some 113, none, .ex (.pick) [.s 109, .s 112, .k (.bool false)]⟩,
             ⟨some 114, none, .ex (.mov) [.s 113]⟩,
             ⟨some 115, some (114, true), .callf 8 []⟩,
             ⟨some 116, none, .ex (.pick) [.s 114, .s 115, .k (.bool false)]⟩,
             ⟨some 10, none, .ex (.mov) [.s 116]⟩])
           .ret)))))))))),
 [.t 10]⟩
theorem c3 : compFn Go.Proofs.Tryd.prog 3 = some fn3 := by kernel_rfl

/-- rubric/rubriclaw15.OpsCut -/
def fn4 : AFn := ⟨92,
 (.seq
  (.region [⟨some 6, none, .ex (.mov) [.k (.bool false)]⟩])
  (.seq
   (.seq
    (.region [⟨some 12, none, .ex (.mov) [.s 0]⟩,
      ⟨some 13, none, .ex (.mov) [.s 1]⟩,
      ⟨some 14, none, .ex (.bsl 1 1 [.nils] [(0, 1)]) [.s 13]⟩,
      ⟨some 15, none, .callf 7 [.s 12, .s 14]⟩])
    (.cond (.s 15)
     (.seq
      (.region [⟨some 16, none, .callf 8 []⟩,
        ⟨some 6, none, .ex (.mov) [.s 16]⟩])
      .ret)
     .skip))
   (.seq
    (.region [⟨some 18, none, .ex (.mov) [.s 0]⟩,
      ⟨some 19, none, .callf 9 [.s 18]⟩,
      ⟨some 17, none, .ex (.mov) [.s 19]⟩,
      ⟨some 20, none, .ex (.ext 0) [.s 17]⟩,
      ⟨some 21, none, .ex (.ext 1) [.s 17]⟩,
      ⟨some 7, none, .ex (.mov) [.s 20]⟩,
      ⟨some 8, none, .ex (.mov) [.s 21]⟩])
    (.seq
     (.seq
      (.region [⟨some 22, none, .ex (.mov) [.s 8]⟩,
        ⟨some 23, none, .ex (.ibin .neq) [.s 22, .k (.int .i64 0)]⟩,
        ⟨some 24, none, .ex (.mov) [.s 23]⟩,
        ⟨some 25, some (24, false), .ex (.mov) [.s 7]⟩,
        ⟨some 26, some (24, false), .ex (.mov) [.s 1]⟩,
        ⟨some 27, some (24, false), .callf 13 [.s 25, .s 26]⟩,
        ⟨some 28, some (24, false), .ex (.ibin .neq) [.s 27, .k (.int .i64 0)]⟩,
        ⟨some 29, none, .ex (.pick) [.s 24, .k (.bool true), .s 28]⟩])
      (.cond (.s 29)
       (.seq
        (.region [⟨some 30, none, .callf 8 []⟩,
          ⟨some 6, none, .ex (.mov) [.s 30]⟩])
        .ret)
       .skip))
     (.seq
      (.region [⟨some 31, none, .ex (.mov) [.s 2]⟩,
        ⟨some 32, none, .ex (.toInt .u64) [.s 31]⟩,
        ⟨some 33, none, .ex (.mov) [.s 1]⟩,
        ⟨some 34, none, .ex (.len) [.s 33]⟩,
        ⟨some 35, none, .ex (.ibin .add) [.s 34, .k (.int .i64 1)]⟩,
        ⟨some 36, none, .ex (.toInt .u64) [.s 35]⟩,
        ⟨some 37, none, .ex (.ibin .rem) [.s 32, .s 36]⟩,
        ⟨some 38, none, .ex (.toInt .i64) [.s 37]⟩,
        ⟨some 9, none, .ex (.mov) [.s 38]⟩])
      (.seq
       (.draw (.op ⟨some 39, none, .ex (.mov) [.s 1]⟩ (.op ⟨some 40, none, .ex (.mov) [.s 9]⟩ (.op ⟨some 41, none, .ex (.slc 5 false true false) [.s 39, .s 40]⟩ (.op ⟨some 42, none, .ex (.mov) [.s 1]⟩ (.op ⟨some 43, none, .ex (.mov) [.s 9]⟩ (.op ⟨some 44, none, .ex (.slc 5 true false false) [.s 42, .s 43]⟩ (.op ⟨some 10, none, .ex (.mov) [.s 41]⟩ (.op ⟨some 11, none, .ex (.mov) [.s 44]⟩ .done)))))))))
       (.seq
        (.region [⟨some 45, none, .ex (.mov) [.s 7]⟩,
          ⟨some 46, none, .ex (.mov) [.s 10]⟩,
          ⟨some 47, none, .callf 13 [.s 45, .s 46]⟩,
          ⟨some 48, none, .ex (.ibin .eql) [.s 47, .k (.int .i64 0)]⟩,
          ⟨some 49, none, .ex (.mov) [.s 48]⟩,
          ⟨some 50, some (49, true), .ex (.mov) [.s 7]⟩,
          ⟨some 51, some (49, true), .ex (.mov) [.s 11]⟩,
          ⟨some 52, some (49, true), .callf 13 [.s 50, .s 51]⟩,
          ⟨some 53, some (49, true), .ex (.ibin .eql) [.s 52, .k (.int .i64 0)]⟩,
          ⟨some 54, none, .ex (.pick) [.s 49, .s 53, .k (.bool false)]⟩,
          ⟨some 55, none, .ex (.mov) [.s 54]⟩,
          ⟨some 56, some (55, true), .ex (.mov) [.s 10]⟩,
          ⟨some 57, some (55, true), .callf 11 [.s 56]⟩,
          ⟨some 58, some (55, true), .ex (.mov) [.s 11]⟩,
          ⟨some 59, some (55, true), .callf 11 [.s 58]⟩,
          ⟨some 60, some (55, true), .ex (.ibin .add) [.s 57, .s 59]⟩,
          ⟨some 61, some (55, true), .ex (.mov) [.s 1]⟩,
          ⟨some 62, some (55, true), .callf 11 [.s 61]⟩,
          ⟨some 63, some (55, true), .ex (.ibin .eql) [.s 60, .s 62]⟩,
          ⟨some 64, none, .ex (.pick) [.s 55, .s 63, .k (.bool false)]⟩,
          ⟨some 65, none, .ex (.mov) [.s 64]⟩,
          ⟨some 66, some (65, true), .ex (.mov) [.s 10]⟩,
          ⟨some 67, some (65, true), .callf 12 [.s 66]⟩,
          ⟨some 68, some (65, true), .ex (.mov) [.s 11]⟩,
          ⟨some 69, some (65, true), .callf 12 [.s 68]⟩,
          ⟨some 70, some (65, true), .ex (.ibin .add) [.s 67, .s 69]⟩,
          ⟨some 71, some (65, true), .ex (.mov) [.s 1]⟩,
          ⟨some 72, some (65, true), .callf 12 [.s 71]⟩,
          ⟨some 73, some (65, true), .ex (.ibin .eql) [.s 70, .s 72]⟩,
          ⟨some 74, none, .ex (.pick) [.s 65, .s 73, .k (.bool false)]⟩,
          ⟨some 75, none, .ex (.mov) [.s 74]⟩,
          ⟨some 76, some (75, true), .ex (.mov) [.s 7]⟩,
          ⟨some 77, some (75, true), .ex (.mov) [.s 1]⟩,
          ⟨some 78, some (75, true), .callf 14 [.s 76, .s 77]⟩,
          ⟨some 79, some (75, true), .ex (.mov) [.s 7]⟩,
          ⟨some 80, some (75, true), .ex (.mov) [.s 10]⟩,
          ⟨some 81, some (75, true), .callf 14 [.s 79, .s 80]⟩,
          ⟨some 82, some (75, true), .ex (.mov) [.s 81]⟩,
          ⟨some 83, some (82, true), .ex (.mov) [.s 7]⟩,
          ⟨some 84, some (82, true), .ex (.mov) [.s 11]⟩,
          ⟨some 85, some (82, true), .callf 14 [.s 83, .s 84]⟩,
          ⟨some 86, some (75, true), .ex (.pick) [.s 82, .s 85, .k (.bool false)]⟩,
          ⟨some 87, some (75, true), .ex (.bbin false) [.s 78, .s 86]⟩,
          ⟨some 88, none, .ex (.pick) [.s 75, .s 87, .k (.bool false)]⟩,
          ⟨some 89, none, .ex (.mov) [.s 88]⟩,
          ⟨some 90, some (89, true), .callf 8 []⟩,
          ⟨some 91, none, .ex (.pick) [.s 89, .s 90, .k (.bool false)]⟩,
          ⟨some 6, none, .ex (.mov) [.s 91]⟩])
        .ret))))))),
 [.t 6]⟩
theorem c4 : compFn Go.Proofs.Tryd.prog 4 = some fn4 := by kernel_rfl

/-- rubric/rubriclaw15.OpsShorter -/
def fn5 : AFn := ⟨113,
 (.seq
  (.region [⟨some 10, none, .ex (.mov) [.k (.bool false)]⟩])
  (.seq
   (.seq
    (.region [⟨some 16, none, .ex (.mov) [.s 0]⟩,
      ⟨some 17, none, .ex (.mov) [.s 1]⟩,
      ⟨some 18, none, .ex (.bsl 1 1 [.nils] [(0, 1)]) [.s 17]⟩,
      ⟨some 19, none, .callf 7 [.s 16, .s 18]⟩,
      ⟨some 20, none, .ex (.mov) [.s 19]⟩,
      ⟨some 21, some (20, false), .ex (.mov) [.s 2]⟩,
      ⟨some 22, some (20, false), .ex (.ibin .lss) [.s 21, .k (.int .i64 1)]⟩,
      ⟨some 23, none, .ex (.pick) [.s 20, .k (.bool true), .s 22]⟩,
      ⟨some 24, none, .ex (.mov) [.s 23]⟩,
      ⟨some 25, some (24, false), .ex (.mov) [.s 2]⟩,
      ⟨some 26, some (24, false), .ex (.ibin .gtr) [.s 25, .k (.int .i64 1073741824)]⟩,
      ⟨some 27, none, .ex (.pick) [.s 24, .k (.bool true), .s 26]⟩,
      ⟨some 28, none, .ex (.mov) [.s 27]⟩,
      ⟨some 29, some (28, false), .ex (.mov) [.s 3]⟩,
      ⟨some 30, some (28, false), .ex (.ibin .lss) [.s 29, .k (.int .i64 0)]⟩,
      ⟨some 31, none, .ex (.pick) [.s 28, .k (.bool true), .s 30]⟩,
      ⟨some 32, none, .ex (.mov) [.s 31]⟩,
      ⟨some 33, some (32, false), .ex (.mov) [.s 3]⟩,
      ⟨some 34, some (32, false), .ex (.mov) [.s 2]⟩,
      ⟨some 35, some (32, false), .ex (.ibin .geq) [.s 33, .s 34]⟩,
      ⟨some 36, none, .ex (.pick) [.s 32, .k (.bool true), .s 35]⟩,
      ⟨some 37, none, .ex (.mov) [.s 36]⟩,
      ⟨some 38, some (37, false), .ex (.mov) [.s 4]⟩,
      ⟨some 39, some (37, false), .ex (.mov) [.s 2]⟩,
      ⟨some 40, some (37, false), .ex (.ibin .lss) [.s 38, .s 39]⟩,
      ⟨some 41, none, .ex (.pick) [.s 37, .k (.bool true), .s 40]⟩,
      ⟨some 42, none, .ex (.mov) [.s 41]⟩,
      ⟨some 43, some (42, false), .ex (.mov) [.s 4]⟩,
      ⟨some 44, some (42, false), .ex (.ibin .gtr) [.s 43, .k (.int .i64 1073741824)]⟩,
      ⟨some 45, none, .ex (.pick) [.s 42, .k (.bool true), .s 44]⟩])
    (.cond (.s 45)
     (.seq
      (.region [⟨some 46, none, .callf 8 []⟩,
        ⟨some 10, none, .ex (.mov) [.s 46]⟩])
      .ret)
     .skip))
   (.seq
    (.region [⟨some 48, none, .ex (.mov) [.s 0]⟩,
      ⟨some 49, none, .callf 9 [.s 48]⟩,
      ⟨some 47, none, .ex (.mov) [.s 49]⟩,
      ⟨some 50, none, .ex (.ext 0) [.s 47]⟩,
      ⟨some 51, none, .ex (.ext 1) [.s 47]⟩,
      ⟨some 11, none, .ex (.mov) [.s 50]⟩,
      ⟨some 12, none, .ex (.mov) [.s 51]⟩])
    (.seq
     (.seq
      (.region [⟨some 52, none, .ex (.mov) [.s 12]⟩,
        ⟨some 53, none, .ex (.ibin .neq) [.s 52, .k (.int .i64 0)]⟩])
      (.cond (.s 53)
       (.seq
        (.region [⟨some 54, none, .callf 8 []⟩,
          ⟨some 10, none, .ex (.mov) [.s 54]⟩])
        .ret)
       .skip))
     (.seq
      (.region [⟨some 55, none, .ex (.mov) [.s 11]⟩,
        ⟨some 56, none, .ex (.mov) [.s 1]⟩,
        ⟨some 57, none, .ex (.mov) [.s 2]⟩,
        ⟨some 58, none, .ex (.mov) [.s 4]⟩,
        ⟨some 59, none, .callf 10 [.s 55, .s 56, .s 57, .s 58]⟩,
        ⟨some 13, none, .ex (.mov) [.s 59]⟩])
      (.seq
       (.seq
        (.region [⟨some 60, none, .ex (.mov) [.s 13]⟩,
          ⟨some 61, none, .ex (.ibin .eql) [.s 60, .k (.int .i64 3)]⟩,
          ⟨some 62, none, .ex (.mov) [.s 61]⟩,
          ⟨some 63, some (62, false), .ex (.mov) [.s 13]⟩,
          ⟨some 64, some (62, false), .ex (.ibin .eql) [.s 63, .k (.int .i64 4)]⟩,
          ⟨some 65, none, .ex (.pick) [.s 62, .k (.bool true), .s 64]⟩,
          ⟨some 66, none, .ex (.mov) [.s 65]⟩,
          ⟨some 67, some (66, false), .ex (.mov) [.s 13]⟩,
          ⟨some 68, some (66, false), .ex (.ibin .eql) [.s 67, .k (.int .i64 5)]⟩,
          ⟨some 69, none, .ex (.pick) [.s 66, .k (.bool true), .s 68]⟩])
        (.cond (.s 69)
         (.seq
          (.region [⟨some 70, none, .ex (.mov) [.s 11]⟩,
            ⟨some 71, none, .ex (.mov) [.s 1]⟩,
            ⟨some 72, none, .ex (.mov) [.s 2]⟩,
            ⟨some 73, none, .ex (.mov) [.s 3]⟩,
            ⟨some 74, none, .ex (.ibin .sub) [.s 72, .s 73]⟩,
            ⟨some 75, none, .ex (.mov) [.s 4]⟩,
            ⟨some 76, none, .callf 10 [.s 70, .s 71, .s 74, .s 75]⟩,
            ⟨some 77, none, .ex (.mov) [.s 13]⟩,
            ⟨some 78, none, .ex (.ibin .neq) [.s 76, .s 77]⟩])
          (.cond (.s 78)
           (.seq
            (.region [⟨some 10, none, .ex (.mov) [.k (.bool false)]⟩])
            .ret)
           .skip))
         .skip))
       (.seq
        (.seq
         (.region [⟨some 79, none, .ex (.mov) [.s 13]⟩,
           ⟨some 80, none, .ex (.ibin .neq) [.s 79, .k (.int .i64 0)]⟩,
           ⟨some 81, none, .ex (.mov) [.s 80]⟩,
           ⟨some 82, some (81, true), .ex (.mov) [.s 11]⟩,
           ⟨some 83, some (81, true), .ex (.mov) [.s 1]⟩,
           ⟨some 84, some (81, true), .ex (.mov) [.s 2]⟩,
           ⟨some 85, some (81, true), .ex (.mov) [.s 2]⟩,
           ⟨some 86, some (81, true), .callf 10 [.s 82, .s 83, .s 84, .s 85]⟩,
           ⟨some 87, some (81, true), .ex (.ibin .eql) [.s 86, .k (.int .i64 0)]⟩,
           ⟨some 88, none, .ex (.pick) [.s 81, .s 87, .k (.bool false)]⟩])
         (.cond (.s 88)
          (.seq
           (.region [⟨some 10, none, .ex (.mov) [.k (.bool false)]⟩])
           .ret)
          .skip))
        (.seq
         (.region [⟨some 89, none, .ex (.mov) [.s 3]⟩,
           ⟨some 90, none, .ex (.mov) [.s 2]⟩,
           ⟨some 91, none, .ex (.ibin .rem) [.s 89, .s 90]⟩,
           ⟨some 92, none, .ex (.ibin .add) [.k (.int .i64 1), .s 91]⟩,
           ⟨some 14, none, .ex (.mov) [.s 92]⟩])
         (.seq
          (.region [⟨some 93, none, .ex (.mov) [.s 14]⟩,
            ⟨some 94, none, .ex (.build [(.int .u8 0), (.int .i64 0), .nils, .nils, .nils] [(0, 1), (1, 1)]) [.k (.int .u8 1), .s 93]⟩,
            ⟨some 95, none, .ex (.bsl 5 1 [(.int .u8 0), (.int .i64 0), .nils, .nils, .nils] [(0, 5)]) [.s 94]⟩,
            ⟨some 15, none, .ex (.mov) [.s 95]⟩])
          (.seq
           (.region [⟨some 96, none, .ex (.mov) [.s 11]⟩,
             ⟨some 97, none, .ex (.mov) [.s 15]⟩,
             ⟨some 98, none, .ex (.mov) [.s 2]⟩,
             ⟨some 99, none, .ex (.mov) [.s 4]⟩,
             ⟨some 100, none, .callf 10 [.s 96, .s 97, .s 98, .s 99]⟩,
             ⟨some 101, none, .ex (.ibin .eql) [.s 100, .k (.int .i64 0)]⟩,
             ⟨some 102, none, .ex (.mov) [.s 14]⟩,
             ⟨some 103, none, .ex (.mov) [.s 2]⟩,
             ⟨some 104, none, .ex (.ibin .leq) [.s 102, .s 103]⟩,
             ⟨some 105, none, .ex (.mov) [.s 104]⟩,
             ⟨some 106, some (105, true), .ex (.mov) [.s 14]⟩,
             ⟨some 107, some (105, true), .ex (.ibin .leq) [.s 106, .k (.int .i64 536870912)]⟩,
             ⟨some 108, none, .ex (.pick) [.s 105, .s 107, .k (.bool false)]⟩,
             ⟨some 109, none, .ex (.bbin false) [.s 101, .s 108]⟩,
             ⟨some 110, none, .ex (.mov) [.s 109]⟩,
             ⟨some 111, some (110, true), .callf 8 []⟩,
             ⟨some 112, none, .ex (.pick) [.s 110, .s 111, .k (.bool false)]⟩,
             ⟨some 10, none, .ex (.mov) [.s 112]⟩])
           .ret)))))))))),
 [.t 10]⟩
theorem c5 : compFn Go.Proofs.Tryd.prog 5 = some fn5 := by kernel_rfl

/-- rubric/rubriclaw15.great -/
def fn7 : AFn := ⟨27,
 (.seq
  (.region [⟨some 4, none, .ex (.mov) [.k (.bool false)]⟩])
  (.seq
   (.region [⟨some 7, none, .ex (.mov) [.s 0]⟩,
     ⟨some 8, none, .ex (.len) [.s 7]⟩,
     ⟨some 9, none, .ex (.ibin .sub) [.s 8, .k (.int .i64 64)]⟩,
     ⟨some 5, none, .ex (.mov) [.s 9]⟩])
   (.seq
    (.seq
     (.region [⟨some 10, none, .ex (.mov) [.s 5]⟩,
       ⟨some 11, none, .ex (.ibin .gtr) [.s 10, .k (.int .i64 0)]⟩])
     (.cond (.s 11)
      (.seq
       (.region [⟨some 4, none, .ex (.mov) [.k (.bool true)]⟩])
       .ret)
      .skip))
    (.seq
     (.region [⟨some 5, none, .ex (.mov) [.k (.int .i64 0)]⟩])
     (.seq
      (.seq
       (.region [⟨some 12, none, .ex (.mov) [.s 1]⟩,
         ⟨some 13, none, .ex (.len) [.s 12]⟩,
         ⟨some 14, none, .ex (.mov) [.k (.int .i64 0)]⟩])
       (.block 0
        (.loop
         (.seq
          (.region [⟨some 15, none, .ex (.ibin .lss) [.s 14, .s 13]⟩])
          (.seq
           (.cond (.s 15)
            .skip
            (.exit 0))
           (.seq
            (.block 1
             (.seq
              (.region [⟨some 16, none, .ex (.mov) [.s 14]⟩,
                ⟨some 6, none, .ex (.mov) [.s 16]⟩])
              (.region [⟨some 17, none, .ex (.mov) [.s 5]⟩,
                ⟨some 18, none, .ex (.mov) [.s 1]⟩,
                ⟨some 19, none, .ex (.mov) [.s 6]⟩,
                ⟨some 20, none, .ex (.ia 1) [.s 18, .s 19]⟩,
                ⟨some 21, none, .ex (.ld 1) [.s 20]⟩,
                ⟨some 22, none, .callf 23 [.s 21]⟩,
                ⟨some 23, none, .ex (.ibin .add) [.s 17, .s 22]⟩,
                ⟨some 5, none, .ex (.mov) [.s 23]⟩])))
            (.region [⟨some 24, none, .ex (.ibin .add) [.s 14, .k (.int .i64 1)]⟩,
              ⟨some 14, none, .ex (.mov) [.s 24]⟩])))))))
      (.seq
       (.region [⟨some 25, none, .ex (.mov) [.s 5]⟩,
         ⟨some 26, none, .ex (.ibin .gtr) [.s 25, .k (.int .i64 30000)]⟩,
         ⟨some 4, none, .ex (.mov) [.s 26]⟩])
       .ret)))))),
 [.t 4]⟩
theorem c7 : compFn Go.Proofs.Tryd.prog 7 = some fn7 := by kernel_rfl

/-- rubric/rubriclaw15.known -/
def fn8 : AFn := ⟨49,
 (.seq
  (.region [⟨some 0, none, .ex (.mov) [.k (.bool false)]⟩])
  (.seq
   (.region [⟨some 7, none, .ex (.build [(.int .i64 0), (.bool false), (.int .u8 0), (.bool false), (.bool false), (.int .i64 0)] [(0, 1), (2, 1)]) [.k (.int .i64 1), .k (.int .u8 1)]⟩,
     ⟨some 8, none, .ex (.bsl 6 1 [(.int .i64 0), (.bool false), (.int .u8 0), (.bool false), (.bool false), (.int .i64 0)] [(0, 6)]) [.s 7]⟩,
     ⟨some 9, none, .callf 9 [.s 8]⟩,
     ⟨some 6, none, .ex (.mov) [.s 9]⟩,
     ⟨some 10, none, .ex (.ext 0) [.s 6]⟩,
     ⟨some 11, none, .ex (.ext 1) [.s 6]⟩,
     ⟨some 1, none, .ex (.mov) [.s 10]⟩,
     ⟨some 2, none, .ex (.mov) [.s 11]⟩])
   (.seq
    (.region [⟨some 12, none, .ex (.bsl 1 1 [(.int .i32 0)] [(0, 1)]) [.k (.int .i32 97)]⟩,
      ⟨some 13, none, .ex (.build [(.int .u8 0), (.int .i64 0), .nils, .nils, .nils] [(0, 1), (2, 1)]) [.k (.int .u8 2), .s 12]⟩,
      ⟨some 3, none, .ex (.alloc [(.int .u8 0), (.int .i64 0), .nils, .nils, .nils]) []⟩,
      ⟨none, none, .ex (.st 5) [.s 3, .s 13]⟩])
    (.seq
     (.region [⟨some 14, none, .ex (.build [(.int .u8 0), (.int .i64 0), .nils, .nils, .nils] [(0, 1), (1, 1)]) [.k (.int .u8 1), .k (.int .i64 2)]⟩,
       ⟨some 15, none, .ex (.build [(.int .u8 0), (.int .i64 0), .nils, .nils, .nils] [(0, 1), (1, 1)]) [.k (.int .u8 1), .k (.int .i64 3)]⟩,
       ⟨some 4, none, .ex (.alloc [(.int .u8 0), (.int .i64 0), .nils, .nils, .nils]) []⟩,
       ⟨some 5, none, .ex (.alloc [(.int .u8 0), (.int .i64 0), .nils, .nils, .nils]) []⟩,
       ⟨none, none, .ex (.st 5) [.s 4, .s 14]⟩,
       ⟨none, none, .ex (.st 5) [.s 5, .s 15]⟩])
     (.seq
      (.region [⟨some 16, none, .ex (.mov) [.s 2]⟩,
        ⟨some 17, none, .ex (.ibin .eql) [.s 16, .k (.int .i64 0)]⟩,
        ⟨some 18, none, .ex (.mov) [.s 17]⟩,
        ⟨some 19, some (18, true), .ex (.mov) [.s 1]⟩,
        ⟨some 20, some (18, true), .ex (.lda 5) [.s 4]⟩,
        ⟨some 21, some (18, true), .ex (.lda 5) [.s 3]⟩,
        ⟨some 22, some (18, true), .ex (.bsl 5 2 [(.int .u8 0), (.int .i64 0), .nils, .nils, .nils, (.int .u8 0), (.int .i64 0), .nils, .nils, .nils] [(0, 5), (5, 5)]) [.s 20, .s 21]⟩,
        ⟨some 23, some (18, true), .callf 10 [.s 19, .s 22, .k (.int .i64 3), .k (.int .i64 4)]⟩,
        ⟨some 24, some (18, true), .ex (.ibin .eql) [.s 23, .k (.int .i64 0)]⟩,
        ⟨some 25, none, .ex (.pick) [.s 18, .s 24, .k (.bool false)]⟩,
        ⟨some 26, none, .ex (.mov) [.s 25]⟩,
        ⟨some 27, some (26, true), .ex (.mov) [.s 1]⟩,
        ⟨some 28, some (26, true), .ex (.lda 5) [.s 5]⟩,
        ⟨some 29, some (26, true), .ex (.lda 5) [.s 3]⟩,
        ⟨some 30, some (26, true), .ex (.bsl 5 2 [(.int .u8 0), (.int .i64 0), .nils, .nils, .nils, (.int .u8 0), (.int .i64 0), .nils, .nils, .nils] [(0, 5), (5, 5)]) [.s 28, .s 29]⟩,
        ⟨some 31, some (26, true), .callf 10 [.s 27, .s 30, .k (.int .i64 3), .k (.int .i64 4)]⟩,
        ⟨some 32, some (26, true), .ex (.ibin .eql) [.s 31, .k (.int .i64 6)]⟩,
        ⟨some 33, none, .ex (.pick) [.s 26, .s 32, .k (.bool false)]⟩,
        ⟨some 34, none, .ex (.mov) [.s 33]⟩,
        ⟨some 35, some (34, true), .ex (.mov) [.s 1]⟩,
        ⟨some 36, some (34, true), .ex (.lda 5) [.s 3]⟩,
        ⟨some 37, some (34, true), .ex (.lda 5) [.s 3]⟩,
        ⟨some 38, some (34, true), .ex (.bsl 5 2 [(.int .u8 0), (.int .i64 0), .nils, .nils, .nils, (.int .u8 0), (.int .i64 0), .nils, .nils, .nils] [(0, 5), (5, 5)]) [.s 36, .s 37]⟩,
        ⟨some 39, some (34, true), .callf 10 [.s 35, .s 38, .k (.int .i64 3), .k (.int .i64 4)]⟩,
        ⟨some 40, some (34, true), .ex (.ibin .eql) [.s 39, .k (.int .i64 8)]⟩,
        ⟨some 41, none, .ex (.pick) [.s 34, .s 40, .k (.bool false)]⟩,
        ⟨some 42, none, .ex (.mov) [.s 41]⟩,
        ⟨some 43, some (42, true), .ex (.mov) [.s 1]⟩,
        ⟨some 44, some (42, true), .ex (.build [(.int .u8 0), (.int .i64 0), .nils, .nils, .nils] []) []⟩,
        ⟨some 45, some (42, true), .ex (.bsl 5 1 [(.int .u8 0), (.int .i64 0), .nils, .nils, .nils] [(0, 5)]) [.s 44]⟩,
        ⟨some 46, some (42, true), .callf 13 [.s 43, .s 45]⟩,
        ⟨some 47, some (42, true), .ex (.ibin .eql) [.s 46, .k (.int .i64 3)]⟩,
        ⟨some 48, none, .ex (.pick) [.s 42, .s 47, .k (.bool false)]⟩,
        ⟨some 0, none, .ex (.mov) [.s 48]⟩])
      .ret))))),
 [.t 0]⟩
theorem c8 : compFn Go.Proofs.Tryd.prog 8 = some fn8 := by kernel_rfl

/-- rubric/schema.New -/
def fn9 : AFn := ⟨53,
 (.seq
  (.region [⟨some 2, none, .ex (.mov) [.k .nilp]⟩,
    ⟨some 3, none, .ex (.mov) [.k (.int .i64 0)]⟩])
  (.seq
   (.seq
    (.region [⟨some 9, none, .ex (.mov) [.s 0]⟩,
      ⟨some 10, none, .ex (.len) [.s 9]⟩,
      ⟨some 11, none, .ex (.ibin .gtr) [.s 10, .k (.int .i64 64)]⟩])
    (.cond (.s 11)
     (.seq
      (.region [⟨some 2, none, .ex (.mov) [.k .nilp]⟩,
        ⟨some 3, none, .ex (.mov) [.k (.int .i64 3)]⟩])
      .ret)
     .skip))
   (.seq
    (.region [⟨some 12, none, .ex (.mov) [.s 0]⟩,
      ⟨some 13, none, .callf 24 [.s 12]⟩,
      ⟨some 14, none, .ex (.mkmap) []⟩,
      ⟨some 15, none, .ex (.build [.nils, .nilm] [(0, 1), (1, 1)]) [.s 13, .s 14]⟩,
      ⟨some 16, none, .ex (.box) [.s 15]⟩,
      ⟨some 4, none, .ex (.mov) [.s 16]⟩])
    (.seq
     (.seq
      (.region [⟨some 17, none, .ex (.mov) [.s 0]⟩,
        ⟨some 18, none, .ex (.len) [.s 17]⟩,
        ⟨some 19, none, .ex (.mov) [.k (.int .i64 0)]⟩])
      (.block 0
       (.loop
        (.seq
         (.region [⟨some 20, none, .ex (.ibin .lss) [.s 19, .s 18]⟩])
         (.seq
          (.cond (.s 20)
           .skip
           (.exit 0))
          (.seq
           (.block 1
            (.seq
             (.region [⟨some 21, none, .ex (.ia 6) [.s 17, .s 19]⟩,
               ⟨some 22, none, .ex (.lda 6) [.s 21]⟩,
               ⟨some 6, none, .ex (.alloc [(.int .i64 0), (.bool false), (.int .u8 0), (.bool false), (.bool false), (.int .i64 0)]) []⟩,
               ⟨none, none, .ex (.st 6) [.s 6, .s 22]⟩])
             (.seq
              (.seq
               (.draw (.op ⟨some 24, none, .ex (.mov) [.s 4]⟩ (.op ⟨some 25, none, .ex (.nilck) [.s 24]⟩ (.op ⟨some 26, none, .ex (.fa 1) [.s 25]⟩ (.op ⟨some 27, none, .ex (.ld 1) [.s 26]⟩ (.op ⟨some 28, none, .ex (.fa 0) [.s 6]⟩ (.op ⟨some 29, none, .ex (.ld 1) [.s 28]⟩ (.op ⟨some 30, none, .ex (.look 0 (.agg [(.int .i64 0), (.bool false), (.int .u8 0), (.bool false), (.bool false), (.int .i64 0)]) true) [.s 27, .s 29]⟩ (.op ⟨some 23, none, .ex (.mov) [.s 30]⟩ (.op ⟨some 31, none, .ex (.ext 0) [.s 23]⟩ (.op ⟨some 32, none, .ex (.ext 1) [.s 23]⟩ (.op ⟨some 7, none, .ex (.alloc [(.int .i64 0), (.bool false), (.int .u8 0), (.bool false), (.bool false), (.int .i64 0)]) []⟩ (.op ⟨none, none, .ex (.st 6) [.s 7, .s 31]⟩ (.op ⟨some 8, none, .ex (.mov) [.s 32]⟩ .done))))))))))))))
               (.seq
                (.region [⟨some 33, none, .ex (.mov) [.s 8]⟩,
                  ⟨some 34, none, .ex (.mov) [.s 33]⟩,
                  ⟨some 35, some (34, false), .ex (.lda 6) [.s 6]⟩,
                  ⟨some 36, some (34, false), .callf 25 [.s 35]⟩,
                  ⟨some 37, some (34, false), .ex (.bnot) [.s 36]⟩,
                  ⟨some 38, none, .ex (.pick) [.s 34, .k (.bool true), .s 37]⟩])
                (.cond (.s 38)
                 (.seq
                  (.region [⟨some 2, none, .ex (.mov) [.k .nilp]⟩,
                    ⟨some 3, none, .ex (.mov) [.k (.int .i64 3)]⟩])
                  .ret)
                 .skip)))
              (.draw (.op ⟨some 39, none, .ex (.mov) [.s 4]⟩ (.op ⟨some 40, none, .ex (.nilck) [.s 39]⟩ (.op ⟨some 41, none, .ex (.fa 1) [.s 40]⟩ (.op ⟨some 42, none, .ex (.ld 1) [.s 41]⟩ (.op ⟨some 43, none, .ex (.fa 0) [.s 6]⟩ (.op ⟨some 44, none, .ex (.ld 1) [.s 43]⟩ (.op ⟨some 45, none, .ex (.lda 6) [.s 6]⟩ (.op ⟨none, none, .ex (.mset 0) [.s 42, .s 44, .s 45]⟩ .done))))))))))))
           (.region [⟨some 46, none, .ex (.ibin .add) [.s 19, .k (.int .i64 1)]⟩,
             ⟨some 19, none, .ex (.mov) [.s 46]⟩])))))))
     (.seq
      (.region [⟨some 47, none, .ex (.mov) [.s 4]⟩,
        ⟨some 48, none, .ex (.nilck) [.s 47]⟩,
        ⟨some 49, none, .ex (.fa 0) [.s 48]⟩,
        ⟨some 50, none, .ex (.ld 1) [.s 49]⟩,
        ⟨some 51, none, .callf 26 [.s 50, .k (.fn (.func 27) [] [])]⟩])
      (.seq
       (.region [⟨some 52, none, .ex (.mov) [.s 4]⟩,
         ⟨some 2, none, .ex (.mov) [.s 52]⟩,
         ⟨some 3, none, .ex (.mov) [.k (.int .i64 0)]⟩])
       .ret)))))),
 [.t 2, .t 3]⟩
theorem c9 : compFn Go.Proofs.Tryd.prog 9 = some fn9 := by kernel_rfl

/-- rubric/ops.Fits -/
def fn10 : AFn := ⟨50,
 (.seq
  (.region [⟨some 8, none, .ex (.mov) [.k (.int .i64 0)]⟩])
  (.seq
   (.seq
    (.region [⟨some 10, none, .ex (.mov) [.s 0]⟩,
      ⟨some 11, none, .ex (.mov) [.s 1]⟩,
      ⟨some 12, none, .callf 13 [.s 10, .s 11]⟩,
      ⟨some 9, none, .ex (.mov) [.s 12]⟩])
    (.seq
     (.region [⟨some 13, none, .ex (.mov) [.s 9]⟩,
       ⟨some 14, none, .ex (.ibin .neq) [.s 13, .k (.int .i64 0)]⟩])
     (.cond (.s 14)
      (.seq
       (.region [⟨some 15, none, .ex (.mov) [.s 9]⟩,
         ⟨some 8, none, .ex (.mov) [.s 15]⟩])
       .ret)
      .skip)))
   (.seq
    (.block 0
     (.seq
      (.region [⟨some 17, none, .ex (.mov) [.s 2]⟩,
        ⟨some 18, none, .ex (.ibin .lss) [.s 17, .k (.int .i64 1)]⟩,
        ⟨some 19, none, .ex (.mov) [.s 18]⟩,
        ⟨some 20, some (19, false), .ex (.mov) [.s 2]⟩,
        ⟨some 21, some (19, false), .ex (.mov) [.s 3]⟩,
        ⟨some 22, some (19, false), .ex (.ibin .gtr) [.s 20, .s 21]⟩,
        ⟨some 23, none, .ex (.pick) [.s 19, .k (.bool true), .s 22]⟩,
        ⟨some 24, none, .ex (.mov) [.s 23]⟩,
        ⟨some 25, some (24, false), .ex (.mov) [.s 1]⟩,
        ⟨some 26, some (24, false), .callf 11 [.s 25]⟩,
        ⟨some 27, some (24, false), .ex (.mov) [.s 2]⟩,
        ⟨some 28, some (24, false), .ex (.ibin .gtr) [.s 26, .s 27]⟩,
        ⟨some 29, none, .ex (.pick) [.s 24, .k (.bool true), .s 28]⟩,
        ⟨some 16, none, .ex (.mov) [.s 29]⟩])
      (.cond (.s 16)
       (.seq
        (.region [⟨some 8, none, .ex (.mov) [.k (.int .i64 5)]⟩])
        .ret)
       (.seq
        (.region [⟨some 31, none, .ex (.mov) [.s 1]⟩,
          ⟨some 32, none, .ex (.mov) [.s 2]⟩,
          ⟨some 33, none, .callf 29 [.s 31, .s 32]⟩,
          ⟨some 34, none, .ex (.bnot) [.s 33]⟩,
          ⟨some 30, none, .ex (.mov) [.s 34]⟩])
        (.cond (.s 30)
         (.seq
          (.region [⟨some 8, none, .ex (.mov) [.k (.int .i64 6)]⟩])
          .ret)
         (.seq
          (.region [⟨some 36, none, .ex (.mov) [.s 0]⟩,
            ⟨some 37, none, .ex (.mov) [.s 1]⟩,
            ⟨some 38, none, .callf 14 [.s 36, .s 37]⟩,
            ⟨some 39, none, .ex (.bnot) [.s 38]⟩,
            ⟨some 35, none, .ex (.mov) [.s 39]⟩])
          (.cond (.s 35)
           (.seq
            (.region [⟨some 8, none, .ex (.mov) [.k (.int .i64 7)]⟩])
            .ret)
           (.seq
            (.region [⟨some 41, none, .ex (.mov) [.s 1]⟩,
              ⟨some 42, none, .callf 12 [.s 41]⟩,
              ⟨some 43, none, .ex (.mov) [.s 1]⟩,
              ⟨some 44, none, .callf 11 [.s 43]⟩,
              ⟨some 45, none, .ex (.ibin .sub) [.s 42, .s 44]⟩,
              ⟨some 46, none, .ex (.mov) [.s 3]⟩,
              ⟨some 47, none, .ex (.mov) [.s 2]⟩,
              ⟨some 48, none, .ex (.ibin .sub) [.s 46, .s 47]⟩,
              ⟨some 49, none, .ex (.ibin .gtr) [.s 45, .s 48]⟩,
              ⟨some 40, none, .ex (.mov) [.s 49]⟩])
            (.cond (.s 40)
             (.seq
              (.region [⟨some 8, none, .ex (.mov) [.k (.int .i64 8)]⟩])
              .ret)
             .skip)))))))))
    (.seq
     (.region [⟨some 8, none, .ex (.mov) [.k (.int .i64 0)]⟩])
     .ret)))),
 [.t 8]⟩
theorem c10 : compFn Go.Proofs.Tryd.prog 10 = some fn10 := by kernel_rfl

/-- rubric/ops.Takes -/
def fn11 : AFn := ⟨21,
 (.seq
  (.region [⟨some 2, none, .ex (.mov) [.k (.int .i64 0)]⟩])
  (.seq
   (.region [⟨some 3, none, .ex (.mov) [.k (.int .i64 0)]⟩])
   (.seq
    (.seq
     (.region [⟨some 6, none, .ex (.mov) [.s 0]⟩,
       ⟨some 7, none, .ex (.len) [.s 6]⟩,
       ⟨some 8, none, .ex (.mov) [.k (.int .i64 0)]⟩])
     (.block 0
      (.loop
       (.seq
        (.region [⟨some 9, none, .ex (.ibin .lss) [.s 8, .s 7]⟩])
        (.seq
         (.cond (.s 9)
          .skip
          (.exit 0))
         (.seq
          (.block 1
           (.seq
            (.region [⟨some 10, none, .ex (.ia 5) [.s 6, .s 8]⟩,
              ⟨some 11, none, .ex (.lda 5) [.s 10]⟩,
              ⟨some 5, none, .ex (.alloc [(.int .u8 0), (.int .i64 0), .nils, .nils, .nils]) []⟩,
              ⟨none, none, .ex (.st 5) [.s 5, .s 11]⟩])
            (.seq
             (.region [⟨some 12, none, .ex (.fa 0) [.s 5]⟩,
               ⟨some 13, none, .ex (.ld 1) [.s 12]⟩,
               ⟨some 14, none, .ex (.ibin .neq) [.s 13, .k (.int .u8 2)]⟩])
             (.cond (.s 14)
              (.region [⟨some 15, none, .ex (.mov) [.s 3]⟩,
                ⟨some 16, none, .ex (.fa 1) [.s 5]⟩,
                ⟨some 17, none, .ex (.ld 1) [.s 16]⟩,
                ⟨some 18, none, .ex (.ibin .add) [.s 15, .s 17]⟩,
                ⟨some 3, none, .ex (.mov) [.s 18]⟩])
              .skip))))
          (.region [⟨some 19, none, .ex (.ibin .add) [.s 8, .k (.int .i64 1)]⟩,
            ⟨some 8, none, .ex (.mov) [.s 19]⟩])))))))
    (.seq
     (.region [⟨some 20, none, .ex (.mov) [.s 3]⟩,
       ⟨some 2, none, .ex (.mov) [.s 20]⟩])
     .ret)))),
 [.t 2]⟩
theorem c11 : compFn Go.Proofs.Tryd.prog 11 = some fn11 := by kernel_rfl

/-- rubric/ops.Makes -/
def fn12 : AFn := ⟨21,
 (.seq
  (.region [⟨some 2, none, .ex (.mov) [.k (.int .i64 0)]⟩])
  (.seq
   (.region [⟨some 3, none, .ex (.mov) [.k (.int .i64 0)]⟩])
   (.seq
    (.seq
     (.region [⟨some 6, none, .ex (.mov) [.s 0]⟩,
       ⟨some 7, none, .ex (.len) [.s 6]⟩,
       ⟨some 8, none, .ex (.mov) [.k (.int .i64 0)]⟩])
     (.block 0
      (.loop
       (.seq
        (.region [⟨some 9, none, .ex (.ibin .lss) [.s 8, .s 7]⟩])
        (.seq
         (.cond (.s 9)
          .skip
          (.exit 0))
         (.seq
          (.block 1
           (.seq
            (.region [⟨some 10, none, .ex (.ia 5) [.s 6, .s 8]⟩,
              ⟨some 11, none, .ex (.lda 5) [.s 10]⟩,
              ⟨some 5, none, .ex (.alloc [(.int .u8 0), (.int .i64 0), .nils, .nils, .nils]) []⟩,
              ⟨none, none, .ex (.st 5) [.s 5, .s 11]⟩])
            (.seq
             (.region [⟨some 12, none, .ex (.fa 0) [.s 5]⟩,
               ⟨some 13, none, .ex (.ld 1) [.s 12]⟩,
               ⟨some 14, none, .ex (.ibin .neq) [.s 13, .k (.int .u8 3)]⟩])
             (.cond (.s 14)
              (.region [⟨some 15, none, .ex (.mov) [.s 3]⟩,
                ⟨some 16, none, .ex (.lda 5) [.s 5]⟩,
                ⟨some 17, none, .callf 30 [.s 16]⟩,
                ⟨some 18, none, .ex (.ibin .add) [.s 15, .s 17]⟩,
                ⟨some 3, none, .ex (.mov) [.s 18]⟩])
              .skip))))
          (.region [⟨some 19, none, .ex (.ibin .add) [.s 8, .k (.int .i64 1)]⟩,
            ⟨some 8, none, .ex (.mov) [.s 19]⟩])))))))
    (.seq
     (.region [⟨some 20, none, .ex (.mov) [.s 3]⟩,
       ⟨some 2, none, .ex (.mov) [.s 20]⟩])
     .ret)))),
 [.t 2]⟩
theorem c12 : compFn Go.Proofs.Tryd.prog 12 = some fn12 := by kernel_rfl

/-- rubric/ops.May -/
def fn13 : AFn := ⟨36,
 (.seq
  (.region [⟨some 4, none, .ex (.mov) [.k (.int .i64 0)]⟩])
  (.seq
   (.region [⟨some 5, none, .ex (.mov) [.k (.int .i64 0)]⟩])
   (.seq
    (.seq
     (.region [⟨some 9, none, .ex (.mov) [.s 1]⟩,
       ⟨some 10, none, .ex (.len) [.s 9]⟩,
       ⟨some 11, none, .ex (.mov) [.k (.int .i64 0)]⟩])
     (.block 0
      (.loop
       (.seq
        (.region [⟨some 12, none, .ex (.ibin .lss) [.s 11, .s 10]⟩])
        (.seq
         (.cond (.s 12)
          .skip
          (.exit 0))
         (.seq
          (.block 1
           (.seq
            (.region [⟨some 13, none, .ex (.ia 5) [.s 9, .s 11]⟩,
              ⟨some 14, none, .ex (.lda 5) [.s 13]⟩,
              ⟨some 7, none, .ex (.alloc [(.int .u8 0), (.int .i64 0), .nils, .nils, .nils]) []⟩,
              ⟨none, none, .ex (.st 5) [.s 7, .s 14]⟩])
            (.seq
             (.region [⟨some 15, none, .ex (.mov) [.s 0]⟩,
               ⟨some 16, none, .ex (.lda 5) [.s 7]⟩,
               ⟨some 17, none, .callf 31 [.s 15, .s 16]⟩,
               ⟨some 8, none, .ex (.mov) [.s 17]⟩])
             (.block 2
              (.seq
               (.region [⟨some 19, none, .ex (.mov) [.s 8]⟩,
                 ⟨some 20, none, .ex (.ibin .eql) [.s 19, .k (.int .i64 3)]⟩,
                 ⟨some 18, none, .ex (.mov) [.s 20]⟩])
               (.cond (.s 18)
                (.seq
                 (.region [⟨some 21, none, .ex (.mov) [.s 8]⟩,
                   ⟨some 4, none, .ex (.mov) [.s 21]⟩])
                 .ret)
                (.seq
                 (.region [⟨some 23, none, .ex (.mov) [.s 8]⟩,
                   ⟨some 24, none, .ex (.ibin .neq) [.s 23, .k (.int .i64 0)]⟩,
                   ⟨some 22, none, .ex (.mov) [.s 24]⟩])
                 (.cond (.s 22)
                  (.region [⟨some 25, none, .ex (.mov) [.s 8]⟩,
                    ⟨some 5, none, .ex (.mov) [.s 25]⟩])
                  .skip))))))))
          (.region [⟨some 26, none, .ex (.ibin .add) [.s 11, .k (.int .i64 1)]⟩,
            ⟨some 11, none, .ex (.mov) [.s 26]⟩])))))))
    (.seq
     (.seq
      (.region [⟨some 27, none, .ex (.mov) [.s 1]⟩,
        ⟨some 28, none, .callf 11 [.s 27]⟩,
        ⟨some 29, none, .ex (.ibin .gtr) [.s 28, .k (.int .i64 536870912)]⟩,
        ⟨some 30, none, .ex (.mov) [.s 29]⟩,
        ⟨some 31, some (30, false), .ex (.mov) [.s 1]⟩,
        ⟨some 32, some (30, false), .callf 12 [.s 31]⟩,
        ⟨some 33, some (30, false), .ex (.ibin .gtr) [.s 32, .k (.int .i64 536870912)]⟩,
        ⟨some 34, none, .ex (.pick) [.s 30, .k (.bool true), .s 33]⟩])
      (.cond (.s 34)
       (.seq
        (.region [⟨some 4, none, .ex (.mov) [.k (.int .i64 3)]⟩])
        .ret)
       .skip))
     (.seq
      (.region [⟨some 35, none, .ex (.mov) [.s 5]⟩,
        ⟨some 4, none, .ex (.mov) [.s 35]⟩])
      .ret))))),
 [.t 4]⟩
theorem c13 : compFn Go.Proofs.Tryd.prog 13 = some fn13 := by kernel_rfl

/-- rubric/ops.InPlace -/
def fn14 : AFn := ⟨53,
 (.seq
  (.region [⟨some 4, none, .ex (.mov) [.k (.bool false)]⟩])
  (.seq
   (.seq
    (.region [⟨some 9, none, .ex (.mov) [.s 1]⟩,
      ⟨some 10, none, .ex (.len) [.s 9]⟩,
      ⟨some 11, none, .ex (.mov) [.k (.int .i64 0)]⟩])
    (.block 0
     (.loop
      (.seq
       (.region [⟨some 12, none, .ex (.ibin .lss) [.s 11, .s 10]⟩])
       (.seq
        (.cond (.s 12)
         .skip
         (.exit 0))
        (.seq
         (.block 1
          (.seq
           (.region [⟨some 13, none, .ex (.ia 5) [.s 9, .s 11]⟩,
             ⟨some 14, none, .ex (.lda 5) [.s 13]⟩,
             ⟨some 6, none, .ex (.alloc [(.int .u8 0), (.int .i64 0), .nils, .nils, .nils]) []⟩,
             ⟨none, none, .ex (.st 5) [.s 6, .s 14]⟩])
           (.seq
            (.seq
             (.region [⟨some 15, none, .ex (.fa 0) [.s 6]⟩,
               ⟨some 16, none, .ex (.ld 1) [.s 15]⟩,
               ⟨some 17, none, .ex (.ibin .neq) [.s 16, .k (.int .u8 2)]⟩,
               ⟨some 18, none, .ex (.mov) [.s 17]⟩,
               ⟨some 19, some (18, false), .ex (.fa 3) [.s 6]⟩,
               ⟨some 20, some (18, false), .ex (.ld 1) [.s 19]⟩,
               ⟨some 21, some (18, false), .ex (.len) [.s 20]⟩,
               ⟨some 22, some (18, false), .ex (.ibin .eql) [.s 21, .k (.int .i64 0)]⟩,
               ⟨some 23, none, .ex (.pick) [.s 18, .k (.bool true), .s 22]⟩])
             (.cond (.s 23)
              (.exit 1)
              .skip))
            (.seq
             (.draw (.op ⟨some 24, none, .ex (.mov) [.s 0]⟩ (.op ⟨some 25, none, .ex (.fa 3) [.s 6]⟩ (.op ⟨some 26, none, .ex (.ld 1) [.s 25]⟩ (.op ⟨some 29, none, .ex (.fa 2) [.s 6]⟩ (.fork (.op ⟨some 27, none, .callf 32 [.s 24, .s 26, .k (.bool true)]⟩ (.op ⟨some 28, none, .ex (.len) [.s 27]⟩ (.op ⟨some 30, none, .ex (.ld 1) [.s 29]⟩ (.op ⟨some 31, none, .callf 33 [.s 30]⟩ (.op ⟨some 7, none, .ex (.mov) [.s 28]⟩ (.op ⟨some 8, none, .ex (.mov) [.s 31]⟩ .done)))))) (.op ⟨some 30, none, .ex (.ld 1) [.s 29]⟩ (.op ⟨some 27, none, .callf 32 [.s 24, .s 26, .k (.bool true)]⟩ (.op ⟨some 28, none, .ex (.len) [.s 27]⟩ (.op ⟨some 31, none, .callf 33 [.s 30]⟩ (.op ⟨some 7, none, .ex (.mov) [.s 28]⟩ (.op ⟨some 8, none, .ex (.mov) [.s 31]⟩ .done))))))))))))
             (.seq
              (.region [⟨some 32, none, .ex (.mov) [.s 7]⟩,
                ⟨some 33, none, .ex (.ibin .gtr) [.s 32, .k (.int .i64 0)]⟩,
                ⟨some 34, none, .ex (.mov) [.s 33]⟩,
                ⟨some 35, some (34, false), .ex (.mov) [.s 8]⟩,
                ⟨some 36, some (34, false), .ex (.ibin .gtr) [.s 35, .k (.int .i64 0)]⟩,
                ⟨some 37, none, .ex (.pick) [.s 34, .k (.bool true), .s 36]⟩,
                ⟨some 38, none, .ex (.mov) [.s 37]⟩,
                ⟨some 39, some (38, true), .ex (.mov) [.s 7]⟩,
                ⟨some 40, some (38, true), .ex (.fa 3) [.s 6]⟩,
                ⟨some 41, some (38, true), .ex (.ld 1) [.s 40]⟩,
                ⟨some 42, some (38, true), .ex (.len) [.s 41]⟩,
                ⟨some 43, some (38, true), .ex (.ibin .lss) [.s 39, .s 42]⟩,
                ⟨some 44, some (38, true), .ex (.mov) [.s 43]⟩,
                ⟨some 45, some (44, false), .ex (.mov) [.s 8]⟩,
                ⟨some 46, some (44, false), .ex (.fa 2) [.s 6]⟩,
                ⟨some 47, some (44, false), .ex (.ld 1) [.s 46]⟩,
                ⟨some 48, some (44, false), .ex (.len) [.s 47]⟩,
                ⟨some 49, some (44, false), .ex (.ibin .lss) [.s 45, .s 48]⟩,
                ⟨some 50, some (38, true), .ex (.pick) [.s 44, .k (.bool true), .s 49]⟩,
                ⟨some 51, none, .ex (.pick) [.s 38, .s 50, .k (.bool false)]⟩])
              (.cond (.s 51)
               (.seq
                (.region [⟨some 4, none, .ex (.mov) [.k (.bool false)]⟩])
                .ret)
               .skip))))))
         (.region [⟨some 52, none, .ex (.ibin .add) [.s 11, .k (.int .i64 1)]⟩,
           ⟨some 11, none, .ex (.mov) [.s 52]⟩])))))))
   (.seq
    (.region [⟨some 4, none, .ex (.mov) [.k (.bool true)]⟩])
    .ret))),
 [.t 4]⟩
theorem c14 : compFn Go.Proofs.Tryd.prog 14 = some fn14 := by kernel_rfl

/-- rubric/rubricref15.Size -/
def fn23 : AFn := ⟨83,
 (.seq
  (.region [⟨some 2, none, .ex (.mov) [.k (.int .i64 0)]⟩])
  (.seq
   (.region [⟨some 3, none, .ex (.mov) [.k (.int .i64 0)]⟩])
   (.seq
    (.seq
     (.region [⟨some 4, none, .ex (.mov) [.k (.int .i64 0)]⟩])
     (.block 0
      (.loop
       (.seq
        (.seq
         (.region [⟨some 7, none, .ex (.mov) [.s 4]⟩,
           ⟨some 8, none, .ex (.mov) [.s 0]⟩,
           ⟨some 9, none, .ex (.len) [.s 8]⟩,
           ⟨some 10, none, .ex (.ibin .lss) [.s 7, .s 9]⟩])
         (.cond (.s 10)
          .skip
          (.exit 0)))
        (.seq
         (.block 1
          (.seq
           (.draw (.op ⟨some 13, none, .ex (.mov) [.s 3]⟩ (.op ⟨some 14, none, .ex (.ibin .add) [.s 13, .k (.int .i64 1)]⟩ (.op ⟨some 15, none, .ex (.mov) [.s 0]⟩ (.op ⟨some 16, none, .ex (.mov) [.s 4]⟩ (.op ⟨some 17, none, .ex (.ia 5) [.s 15, .s 16]⟩ (.op ⟨some 18, none, .ex (.fa 2) [.s 17]⟩ (.op ⟨some 19, none, .ex (.ld 1) [.s 18]⟩ (.op ⟨some 20, none, .ex (.len) [.s 19]⟩ (.op ⟨some 21, none, .ex (.ibin .add) [.s 14, .s 20]⟩ (.op ⟨some 22, none, .ex (.mov) [.s 0]⟩ (.op ⟨some 23, none, .ex (.mov) [.s 4]⟩ (.op ⟨some 24, none, .ex (.ia 5) [.s 22, .s 23]⟩ (.op ⟨some 25, none, .ex (.fa 3) [.s 24]⟩ (.op ⟨some 26, none, .ex (.ld 1) [.s 25]⟩ (.op ⟨some 27, none, .ex (.len) [.s 26]⟩ (.op ⟨some 28, none, .ex (.ibin .add) [.s 21, .s 27]⟩ (.op ⟨some 29, none, .ex (.mov) [.s 0]⟩ (.op ⟨some 30, none, .ex (.mov) [.s 4]⟩ (.op ⟨some 31, none, .ex (.ia 5) [.s 29, .s 30]⟩ (.op ⟨some 32, none, .ex (.fa 4) [.s 31]⟩ (.op ⟨some 33, none, .ex (.ld 1) [.s 32]⟩ (.op ⟨some 34, none, .ex (.len) [.s 33]⟩ (.op ⟨some 35, none, .ex (.ibin .add) [.s 28, .s 34]⟩ (.op ⟨some 3, none, .ex (.mov) [.s 35]⟩ .done)))))))))))))))))))))))))
           (.seq
            (.seq
             (.region [⟨some 5, none, .ex (.mov) [.k (.int .i64 0)]⟩])
             (.block 2
              (.loop
               (.seq
                (.seq
                 (.region [⟨some 36, none, .ex (.mov) [.s 5]⟩,
                   ⟨some 37, none, .ex (.mov) [.s 0]⟩,
                   ⟨some 38, none, .ex (.mov) [.s 4]⟩,
                   ⟨some 39, none, .ex (.ia 5) [.s 37, .s 38]⟩,
                   ⟨some 40, none, .ex (.fa 3) [.s 39]⟩,
                   ⟨some 41, none, .ex (.ld 1) [.s 40]⟩,
                   ⟨some 42, none, .ex (.len) [.s 41]⟩,
                   ⟨some 43, none, .ex (.ibin .lss) [.s 36, .s 42]⟩])
                 (.cond (.s 43)
                  .skip
                  (.exit 2)))
                (.seq
                 (.block 3
                  (.region [⟨some 46, none, .ex (.mov) [.s 3]⟩,
                    ⟨some 47, none, .ex (.mov) [.s 0]⟩,
                    ⟨some 48, none, .ex (.mov) [.s 4]⟩,
                    ⟨some 49, none, .ex (.ia 5) [.s 47, .s 48]⟩,
                    ⟨some 50, none, .ex (.fa 3) [.s 49]⟩,
                    ⟨some 51, none, .ex (.ld 1) [.s 50]⟩,
                    ⟨some 52, none, .ex (.mov) [.s 5]⟩,
                    ⟨some 53, none, .ex (.ia 5) [.s 51, .s 52]⟩,
                    ⟨some 54, none, .ex (.fa 1) [.s 53]⟩,
                    ⟨some 55, none, .ex (.fa 3) [.s 54]⟩,
                    ⟨some 56, none, .ex (.ld 1) [.s 55]⟩,
                    ⟨some 57, none, .ex (.slen) [.s 56]⟩,
                    ⟨some 58, none, .ex (.ibin .add) [.s 46, .s 57]⟩,
                    ⟨some 3, none, .ex (.mov) [.s 58]⟩]))
                 (.region [⟨some 44, none, .ex (.mov) [.s 5]⟩,
                   ⟨some 45, none, .ex (.ibin .add) [.s 44, .k (.int .i64 1)]⟩,
                   ⟨some 5, none, .ex (.mov) [.s 45]⟩]))))))
            (.seq
             (.region [⟨some 6, none, .ex (.mov) [.k (.int .i64 0)]⟩])
             (.block 4
              (.loop
               (.seq
                (.seq
                 (.region [⟨some 59, none, .ex (.mov) [.s 6]⟩,
                   ⟨some 60, none, .ex (.mov) [.s 0]⟩,
                   ⟨some 61, none, .ex (.mov) [.s 4]⟩,
                   ⟨some 62, none, .ex (.ia 5) [.s 60, .s 61]⟩,
                   ⟨some 63, none, .ex (.fa 4) [.s 62]⟩,
                   ⟨some 64, none, .ex (.ld 1) [.s 63]⟩,
                   ⟨some 65, none, .ex (.len) [.s 64]⟩,
                   ⟨some 66, none, .ex (.ibin .lss) [.s 59, .s 65]⟩])
                 (.cond (.s 66)
                  .skip
                  (.exit 4)))
                (.seq
                 (.block 5
                  (.region [⟨some 69, none, .ex (.mov) [.s 3]⟩,
                    ⟨some 70, none, .ex (.mov) [.s 0]⟩,
                    ⟨some 71, none, .ex (.mov) [.s 4]⟩,
                    ⟨some 72, none, .ex (.ia 5) [.s 70, .s 71]⟩,
                    ⟨some 73, none, .ex (.fa 4) [.s 72]⟩,
                    ⟨some 74, none, .ex (.ld 1) [.s 73]⟩,
                    ⟨some 75, none, .ex (.mov) [.s 6]⟩,
                    ⟨some 76, none, .ex (.ia 6) [.s 74, .s 75]⟩,
                    ⟨some 77, none, .ex (.fa 2) [.s 76]⟩,
                    ⟨some 78, none, .ex (.fa 3) [.s 77]⟩,
                    ⟨some 79, none, .ex (.ld 1) [.s 78]⟩,
                    ⟨some 80, none, .ex (.slen) [.s 79]⟩,
                    ⟨some 81, none, .ex (.ibin .add) [.s 69, .s 80]⟩,
                    ⟨some 3, none, .ex (.mov) [.s 81]⟩]))
                 (.region [⟨some 67, none, .ex (.mov) [.s 6]⟩,
                   ⟨some 68, none, .ex (.ibin .add) [.s 67, .k (.int .i64 1)]⟩,
                   ⟨some 6, none, .ex (.mov) [.s 68]⟩])))))))))
         (.region [⟨some 11, none, .ex (.mov) [.s 4]⟩,
           ⟨some 12, none, .ex (.ibin .add) [.s 11, .k (.int .i64 1)]⟩,
           ⟨some 4, none, .ex (.mov) [.s 12]⟩]))))))
    (.seq
     (.region [⟨some 82, none, .ex (.mov) [.s 3]⟩,
       ⟨some 2, none, .ex (.mov) [.s 82]⟩])
     .ret)))),
 [.t 2]⟩
theorem c23 : compFn Go.Proofs.Tryd.prog 23 = some fn23 := by kernel_rfl

/-- slices.Clone[[]rubric/api.Key,rubric/api.Key] -/
def fn24 : AFn := ⟨8,
 (.seq
  (.region [⟨some 2, none, .ex (.mov) [.k .nils]⟩])
  (.seq
   (.seq
    (.region [⟨some 3, none, .ex (.mov) [.s 0]⟩,
      ⟨some 4, none, .ex (.eqnil 1 false) [.s 3, .k .nils]⟩])
    (.cond (.s 4)
     (.seq
      (.region [⟨some 2, none, .ex (.mov) [.k .nils]⟩])
      .ret)
     .skip))
   (.seq
    (.region [⟨some 5, none, .ex (.bsl 6 0 [] []) []⟩,
      ⟨some 6, none, .ex (.mov) [.s 0]⟩,
      ⟨some 7, none, .ex (.app 6 24) [.s 5, .s 6]⟩,
      ⟨some 2, none, .ex (.mov) [.s 7]⟩])
    .ret))),
 [.t 2]⟩
theorem c24 : compFn Go.Proofs.Tryd.prog 24 = some fn24 := by kernel_rfl

/-- rubric/schema.may -/
def fn25 : AFn := ⟨41,
 (.seq
  (.region [⟨some 1, none, .ex (.box) [.s 0]⟩,
    ⟨some 2, none, .ex (.mov) [.k (.bool false)]⟩])
  (.seq
   (.block 0
    (.seq
     (.region [⟨some 4, none, .ex (.fa 0) [.s 1]⟩,
       ⟨some 5, none, .ex (.ld 1) [.s 4]⟩,
       ⟨some 6, none, .ex (.ibin .lss) [.s 5, .k (.int .i64 1)]⟩,
       ⟨some 7, none, .ex (.mov) [.s 6]⟩,
       ⟨some 8, some (7, false), .ex (.fa 0) [.s 1]⟩,
       ⟨some 9, some (7, false), .ex (.ld 1) [.s 8]⟩,
       ⟨some 10, some (7, false), .ex (.ibin .gtr) [.s 9, .k (.int .i64 1000)]⟩,
       ⟨some 11, none, .ex (.pick) [.s 7, .k (.bool true), .s 10]⟩,
       ⟨some 12, none, .ex (.mov) [.s 11]⟩,
       ⟨some 13, some (12, false), .ex (.fa 2) [.s 1]⟩,
       ⟨some 14, some (12, false), .ex (.ld 1) [.s 13]⟩,
       ⟨some 15, some (12, false), .ex (.ibin .lss) [.s 14, .k (.int .u8 1)]⟩,
       ⟨some 16, none, .ex (.pick) [.s 12, .k (.bool true), .s 15]⟩,
       ⟨some 17, none, .ex (.mov) [.s 16]⟩,
       ⟨some 18, some (17, false), .ex (.fa 2) [.s 1]⟩,
       ⟨some 19, some (17, false), .ex (.ld 1) [.s 18]⟩,
       ⟨some 20, some (17, false), .ex (.ibin .gtr) [.s 19, .k (.int .u8 4)]⟩,
       ⟨some 21, none, .ex (.pick) [.s 17, .k (.bool true), .s 20]⟩,
       ⟨some 3, none, .ex (.mov) [.s 21]⟩])
     (.cond (.s 3)
      (.seq
       (.region [⟨some 2, none, .ex (.mov) [.k (.bool false)]⟩])
       .ret)
      (.seq
       (.region [⟨some 23, none, .ex (.fa 1) [.s 1]⟩,
         ⟨some 24, none, .ex (.ld 1) [.s 23]⟩,
         ⟨some 22, none, .ex (.mov) [.s 24]⟩])
       (.cond (.s 22)
        (.seq
         (.region [⟨some 25, none, .ex (.fa 4) [.s 1]⟩,
           ⟨some 26, none, .ex (.ld 1) [.s 25]⟩,
           ⟨some 27, none, .ex (.bnot) [.s 26]⟩,
           ⟨some 28, none, .ex (.mov) [.s 27]⟩,
           ⟨some 29, some (28, true), .ex (.fa 5) [.s 1]⟩,
           ⟨some 30, some (28, true), .ex (.ld 1) [.s 29]⟩,
           ⟨some 31, some (28, true), .ex (.ibin .geq) [.s 30, .k (.int .i64 0)]⟩,
           ⟨some 32, none, .ex (.pick) [.s 28, .s 31, .k (.bool false)]⟩,
           ⟨some 33, none, .ex (.mov) [.s 32]⟩,
           ⟨some 34, some (33, true), .ex (.fa 5) [.s 1]⟩,
           ⟨some 35, some (33, true), .ex (.ld 1) [.s 34]⟩,
           ⟨some 36, some (33, true), .ex (.ibin .leq) [.s 35, .k (.int .i64 8)]⟩,
           ⟨some 37, none, .ex (.pick) [.s 33, .s 36, .k (.bool false)]⟩,
           ⟨some 2, none, .ex (.mov) [.s 37]⟩])
         .ret)
        .skip)))))
   (.seq
    (.region [⟨some 38, none, .ex (.fa 5) [.s 1]⟩,
      ⟨some 39, none, .ex (.ld 1) [.s 38]⟩,
      ⟨some 40, none, .ex (.ibin .eql) [.s 39, .k (.int .i64 0)]⟩,
      ⟨some 2, none, .ex (.mov) [.s 40]⟩])
    .ret))),
 [.t 2]⟩
theorem c25 : compFn Go.Proofs.Tryd.prog 25 = some fn25 := by kernel_rfl

/-- rubric/schema.New$1 -/
def fn27 : AFn := ⟨10,
 (.seq
  (.region [⟨some 2, none, .ex (.box) [.s 0]⟩,
    ⟨some 3, none, .ex (.box) [.s 1]⟩,
    ⟨some 4, none, .ex (.mov) [.k (.int .i64 0)]⟩])
  (.seq
   (.region [⟨some 5, none, .ex (.fa 0) [.s 2]⟩,
     ⟨some 6, none, .ex (.ld 1) [.s 5]⟩,
     ⟨some 7, none, .ex (.fa 0) [.s 3]⟩,
     ⟨some 8, none, .ex (.ld 1) [.s 7]⟩,
     ⟨some 9, none, .callf 28 [.s 6, .s 8]⟩,
     ⟨some 4, none, .ex (.mov) [.s 9]⟩])
   .ret)),
 [.t 4]⟩
theorem c27 : compFn Go.Proofs.Tryd.prog 27 = some fn27 := by kernel_rfl

/-- cmp.Compare[int] -/
def fn28 : AFn := ⟨20,
 (.seq
  (.region [⟨some 4, none, .ex (.mov) [.k (.int .i64 0)]⟩])
  (.seq
   (.region [⟨some 7, none, .ex (.mov) [.s 0]⟩,
     ⟨some 8, none, .callf 56 [.s 7]⟩,
     ⟨some 5, none, .ex (.mov) [.s 8]⟩])
   (.seq
    (.region [⟨some 9, none, .ex (.mov) [.s 1]⟩,
      ⟨some 10, none, .callf 56 [.s 9]⟩,
      ⟨some 6, none, .ex (.mov) [.s 10]⟩])
    (.seq
     (.seq
      (.region [⟨some 11, none, .ex (.mov) [.s 5]⟩])
      (.cond (.s 11)
       (.seq
        (.seq
         (.region [⟨some 12, none, .ex (.mov) [.s 6]⟩])
         (.cond (.s 12)
          (.seq
           (.region [⟨some 4, none, .ex (.mov) [.k (.int .i64 0)]⟩])
           .ret)
          .skip))
        (.seq
         (.region [⟨some 4, none, .ex (.mov) [.k (.int .i64 (-1))]⟩])
         .ret))
       .skip))
     (.seq
      (.seq
       (.region [⟨some 13, none, .ex (.mov) [.s 6]⟩])
       (.cond (.s 13)
        (.seq
         (.region [⟨some 4, none, .ex (.mov) [.k (.int .i64 1)]⟩])
         .ret)
        .skip))
      (.seq
       (.seq
        (.region [⟨some 14, none, .ex (.mov) [.s 0]⟩,
          ⟨some 15, none, .ex (.mov) [.s 1]⟩,
          ⟨some 16, none, .ex (.ibin .lss) [.s 14, .s 15]⟩])
        (.cond (.s 16)
         (.seq
          (.region [⟨some 4, none, .ex (.mov) [.k (.int .i64 (-1))]⟩])
          .ret)
         .skip))
       (.seq
        (.seq
         (.region [⟨some 17, none, .ex (.mov) [.s 0]⟩,
           ⟨some 18, none, .ex (.mov) [.s 1]⟩,
           ⟨some 19, none, .ex (.ibin .gtr) [.s 17, .s 18]⟩])
         (.cond (.s 19)
          (.seq
           (.region [⟨some 4, none, .ex (.mov) [.k (.int .i64 1)]⟩])
           .ret)
          .skip))
        (.seq
         (.region [⟨some 4, none, .ex (.mov) [.k (.int .i64 0)]⟩])
         .ret)))))))),
 [.t 4]⟩
theorem c28 : compFn Go.Proofs.Tryd.prog 28 = some fn28 := by kernel_rfl

/-- rubric/ops.final -/
def fn29 : AFn := ⟨34,
 (.seq
  (.region [⟨some 4, none, .ex (.mov) [.k (.bool false)]⟩])
  (.scope
   (.seq
    (.region [⟨some 5, none, .ex (.mov) [.k (.int .i64 0)]⟩])
    (.seq
     .skip
     (.seq
      (.seq
       (.region [⟨some 8, none, .ex (.mov) [.s 0]⟩,
         ⟨some 9, none, .ex (.len) [.s 8]⟩,
         ⟨some 10, none, .ex (.mov) [.k (.int .i64 0)]⟩])
       (.block 0
        (.loop
         (.seq
          (.region [⟨some 11, none, .ex (.ibin .lss) [.s 10, .s 9]⟩])
          (.seq
           (.cond (.s 11)
            .skip
            (.exit 0))
           (.seq
            (.block 1
             (.seq
              (.region [⟨some 12, none, .ex (.ia 5) [.s 8, .s 10]⟩,
                ⟨some 13, none, .ex (.lda 5) [.s 12]⟩,
                ⟨some 7, none, .ex (.alloc [(.int .u8 0), (.int .i64 0), .nils, .nils, .nils]) []⟩,
                ⟨none, none, .ex (.st 5) [.s 7, .s 13]⟩])
              (.seq
               (.seq
                (.region [⟨some 14, none, .ex (.fa 0) [.s 7]⟩,
                  ⟨some 15, none, .ex (.ld 1) [.s 14]⟩])
                (.block 2
                 (.seq
                  (.region [⟨some 17, none, .ex (.ibin .eql) [.s 15, .k (.int .u8 2)]⟩,
                    ⟨some 16, none, .ex (.mov) [.s 17]⟩])
                  (.cond (.s 16)
                   (.seq
                    (.seq
                     (.region [⟨some 18, none, .ex (.mov) [.s 5]⟩,
                       ⟨some 19, none, .ex (.mov) [.s 1]⟩,
                       ⟨some 20, none, .ex (.ibin .eql) [.s 18, .s 19]⟩])
                     (.cond (.s 20)
                      (.seq
                       (.region [⟨some 4, none, .ex (.mov) [.k (.bool false)]⟩])
                       .ret)
                      .skip))
                    (.exit 1))
                   (.seq
                    (.region [⟨some 22, none, .ex (.ibin .eql) [.s 15, .k (.int .u8 3)]⟩,
                      ⟨some 21, none, .ex (.mov) [.s 22]⟩])
                    (.cond (.s 21)
                     (.seq
                      (.region [⟨some 23, none, .ex (.mov) [.s 5]⟩,
                        ⟨some 24, none, .ex (.fa 1) [.s 7]⟩,
                        ⟨some 25, none, .ex (.ld 1) [.s 24]⟩,
                        ⟨some 26, none, .ex (.ibin .add) [.s 23, .s 25]⟩,
                        ⟨some 27, none, .ex (.mov) [.s 1]⟩,
                        ⟨some 28, none, .ex (.ibin .eql) [.s 26, .s 27]⟩])
                      (.cond (.s 28)
                       (.seq
                        (.region [⟨some 4, none, .ex (.mov) [.k (.bool false)]⟩])
                        .ret)
                       .skip))
                     .skip))))))
               (.region [⟨some 29, none, .ex (.mov) [.s 5]⟩,
                 ⟨some 30, none, .ex (.fa 1) [.s 7]⟩,
                 ⟨some 31, none, .ex (.ld 1) [.s 30]⟩,
                 ⟨some 32, none, .ex (.ibin .add) [.s 29, .s 31]⟩,
                 ⟨some 5, none, .ex (.mov) [.s 32]⟩]))))
            (.region [⟨some 33, none, .ex (.ibin .add) [.s 10, .k (.int .i64 1)]⟩,
              ⟨some 10, none, .ex (.mov) [.s 33]⟩])))))))
      (.seq
       (.region [⟨some 4, none, .ex (.mov) [.k (.bool true)]⟩])
       .ret)))))),
 [.t 4]⟩
theorem c29 : compFn Go.Proofs.Tryd.prog 29 = some fn29 := by kernel_rfl

/-- rubric/ops.size -/
def fn30 : AFn := ⟨11,
 (.seq
  (.region [⟨some 1, none, .ex (.box) [.s 0]⟩,
    ⟨some 2, none, .ex (.mov) [.k (.int .i64 0)]⟩])
  (.seq
   (.seq
    (.region [⟨some 3, none, .ex (.fa 0) [.s 1]⟩,
      ⟨some 4, none, .ex (.ld 1) [.s 3]⟩,
      ⟨some 5, none, .ex (.ibin .eql) [.s 4, .k (.int .u8 2)]⟩])
    (.cond (.s 5)
     (.seq
      (.region [⟨some 6, none, .ex (.fa 2) [.s 1]⟩,
        ⟨some 7, none, .ex (.ld 1) [.s 6]⟩,
        ⟨some 8, none, .ex (.len) [.s 7]⟩,
        ⟨some 2, none, .ex (.mov) [.s 8]⟩])
      .ret)
     .skip))
   (.seq
    (.region [⟨some 9, none, .ex (.fa 1) [.s 1]⟩,
      ⟨some 10, none, .ex (.ld 1) [.s 9]⟩,
      ⟨some 2, none, .ex (.mov) [.s 10]⟩])
    .ret))),
 [.t 2]⟩
theorem c30 : compFn Go.Proofs.Tryd.prog 30 = some fn30 := by kernel_rfl

/-- rubric/ops.one -/
def fn31 : AFn := ⟨30,
 (.seq
  (.region [⟨some 3, none, .ex (.box) [.s 1]⟩,
    ⟨some 4, none, .ex (.mov) [.k (.int .i64 0)]⟩])
  (.seq
   (.seq
    (.region [⟨some 6, none, .ex (.lda 5) [.s 3]⟩,
      ⟨some 7, none, .callf 57 [.s 6]⟩,
      ⟨some 8, none, .ex (.bnot) [.s 7]⟩,
      ⟨some 9, none, .ex (.mov) [.s 8]⟩,
      ⟨some 10, some (9, false), .ex (.lda 5) [.s 3]⟩,
      ⟨some 11, some (9, false), .callf 30 [.s 10]⟩,
      ⟨some 12, some (9, false), .ex (.ibin .lss) [.s 11, .k (.int .i64 1)]⟩,
      ⟨some 13, none, .ex (.pick) [.s 9, .k (.bool true), .s 12]⟩,
      ⟨some 14, none, .ex (.mov) [.s 13]⟩,
      ⟨some 15, some (14, false), .ex (.lda 5) [.s 3]⟩,
      ⟨some 16, some (14, false), .callf 30 [.s 15]⟩,
      ⟨some 17, some (14, false), .ex (.ibin .gtr) [.s 16, .k (.int .i64 536870912)]⟩,
      ⟨some 18, none, .ex (.pick) [.s 14, .k (.bool true), .s 17]⟩])
    (.cond (.s 18)
     (.seq
      (.region [⟨some 4, none, .ex (.mov) [.k (.int .i64 3)]⟩])
      .ret)
     .skip))
   (.seq
    (.seq
     (.region [⟨some 19, none, .ex (.mov) [.s 0]⟩,
       ⟨some 20, none, .ex (.fa 3) [.s 3]⟩,
       ⟨some 21, none, .ex (.ld 1) [.s 20]⟩,
       ⟨some 22, none, .callf 39 [.s 19, .s 21]⟩,
       ⟨some 5, none, .ex (.mov) [.s 22]⟩])
     (.seq
      (.region [⟨some 23, none, .ex (.mov) [.s 5]⟩,
        ⟨some 24, none, .ex (.ibin .neq) [.s 23, .k (.int .i64 0)]⟩])
      (.cond (.s 24)
       (.seq
        (.region [⟨some 25, none, .ex (.mov) [.s 5]⟩,
          ⟨some 4, none, .ex (.mov) [.s 25]⟩])
        .ret)
       .skip)))
    (.seq
     (.region [⟨some 26, none, .ex (.mov) [.s 0]⟩,
       ⟨some 27, none, .ex (.fa 4) [.s 3]⟩,
       ⟨some 28, none, .ex (.ld 1) [.s 27]⟩,
       ⟨some 29, none, .callf 58 [.s 26, .s 28]⟩,
       ⟨some 4, none, .ex (.mov) [.s 29]⟩])
     .ret)))),
 [.t 4]⟩
theorem c31 : compFn Go.Proofs.Tryd.prog 31 = some fn31 := by kernel_rfl

/-- rubric/attrs.Part -/
def fn32 : AFn := ⟨11,
 (.seq
  (.region [⟨some 3, none, .ex (.box) [.s 0]⟩,
    ⟨some 5, none, .ex (.box) [.s 2]⟩,
    ⟨some 6, none, .ex (.mov) [.k .nils]⟩])
  (.seq
   (.region [⟨some 7, none, .ex (.mov) [.s 1]⟩,
     ⟨some 8, none, .callf 60 [.s 7]⟩,
     ⟨some 9, none, .ex (.mkfn (.func 61) 0) [.s 3, .s 5]⟩,
     ⟨some 10, none, .callf 59 [.s 8, .s 9]⟩,
     ⟨some 6, none, .ex (.mov) [.s 10]⟩])
   .ret)),
 [.t 6]⟩
theorem c32 : compFn Go.Proofs.Tryd.prog 32 = some fn32 := by kernel_rfl

/-- rubric/runes.Newlines -/
def fn33 : AFn := ⟨18,
 (.seq
  (.region [⟨some 2, none, .ex (.mov) [.k (.int .i64 0)]⟩])
  (.seq
   (.region [⟨some 3, none, .ex (.mov) [.k (.int .i64 0)]⟩])
   (.seq
    (.seq
     (.region [⟨some 6, none, .ex (.mov) [.s 0]⟩,
       ⟨some 7, none, .ex (.len) [.s 6]⟩,
       ⟨some 8, none, .ex (.mov) [.k (.int .i64 0)]⟩])
     (.block 0
      (.loop
       (.seq
        (.region [⟨some 9, none, .ex (.ibin .lss) [.s 8, .s 7]⟩])
        (.seq
         (.cond (.s 9)
          .skip
          (.exit 0))
         (.seq
          (.block 1
           (.seq
            (.region [⟨some 10, none, .ex (.ia 1) [.s 6, .s 8]⟩,
              ⟨some 11, none, .ex (.ld 1) [.s 10]⟩,
              ⟨some 5, none, .ex (.mov) [.s 11]⟩])
            (.seq
             (.region [⟨some 12, none, .ex (.mov) [.s 5]⟩,
               ⟨some 13, none, .ex (.ibin .eql) [.s 12, .k (.int .i32 10)]⟩])
             (.cond (.s 13)
              (.region [⟨some 14, none, .ex (.mov) [.s 3]⟩,
                ⟨some 15, none, .ex (.ibin .add) [.s 14, .k (.int .i64 1)]⟩,
                ⟨some 3, none, .ex (.mov) [.s 15]⟩])
              .skip))))
          (.region [⟨some 16, none, .ex (.ibin .add) [.s 8, .k (.int .i64 1)]⟩,
            ⟨some 8, none, .ex (.mov) [.s 16]⟩])))))))
    (.seq
     (.region [⟨some 17, none, .ex (.mov) [.s 3]⟩,
       ⟨some 2, none, .ex (.mov) [.s 17]⟩])
     .ret)))),
 [.t 2]⟩
theorem c33 : compFn Go.Proofs.Tryd.prog 33 = some fn33 := by kernel_rfl

/-- rubric/runes.May -/
def fn38 : AFn := ⟨5,
 (.seq
  (.region [⟨some 2, none, .ex (.mov) [.k (.bool false)]⟩])
  (.seq
   (.region [⟨some 3, none, .ex (.mov) [.s 0]⟩,
     ⟨some 4, none, .callf 64 [.s 3]⟩,
     ⟨some 2, none, .ex (.mov) [.s 4]⟩])
   .ret)),
 [.t 2]⟩
theorem c38 : compFn Go.Proofs.Tryd.prog 38 = some fn38 := by kernel_rfl

/-- rubric/attrs.May -/
def fn39 : AFn := ⟨48,
 (.seq
  (.region [⟨some 4, none, .ex (.mov) [.k (.int .i64 0)]⟩])
  (.seq
   (.seq
    (.region [⟨some 8, none, .ex (.mov) [.s 1]⟩,
      ⟨some 9, none, .ex (.len) [.s 8]⟩,
      ⟨some 10, none, .ex (.ibin .gtr) [.s 9, .k (.int .i64 64)]⟩])
    (.cond (.s 10)
     (.seq
      (.region [⟨some 4, none, .ex (.mov) [.k (.int .i64 3)]⟩])
      .ret)
     .skip))
   (.seq
    (.region [⟨some 5, none, .ex (.mov) [.k (.int .i64 0)]⟩])
    (.seq
     (.seq
      (.region [⟨some 11, none, .ex (.mov) [.s 1]⟩,
        ⟨some 12, none, .ex (.len) [.s 11]⟩,
        ⟨some 13, none, .ex (.mov) [.k (.int .i64 0)]⟩])
      (.block 0
       (.loop
        (.seq
         (.region [⟨some 14, none, .ex (.ibin .lss) [.s 13, .s 12]⟩])
         (.seq
          (.cond (.s 14)
           .skip
           (.exit 0))
          (.seq
           (.block 1
            (.seq
             (.region [⟨some 15, none, .ex (.mov) [.s 13]⟩,
               ⟨some 16, none, .ex (.ia 5) [.s 11, .s 13]⟩,
               ⟨some 17, none, .ex (.lda 5) [.s 16]⟩,
               ⟨some 7, none, .ex (.alloc [(.int .i64 0), (.int .u8 0), (.int .i64 0), (.int .u64 0), (.str ⟨#[]⟩)]) []⟩,
               ⟨some 6, none, .ex (.mov) [.s 15]⟩,
               ⟨none, none, .ex (.st 5) [.s 7, .s 17]⟩])
             (.block 2
              (.seq
               (.draw (.op ⟨some 19, none, .ex (.mov) [.s 6]⟩ (.op ⟨some 20, none, .ex (.ibin .gtr) [.s 19, .k (.int .i64 0)]⟩ (.op ⟨some 21, none, .ex (.mov) [.s 20]⟩ (.op ⟨some 22, some (21, true), .ex (.mov) [.s 1]⟩ (.op ⟨some 23, some (21, true), .ex (.mov) [.s 6]⟩ (.op ⟨some 24, some (21, true), .ex (.ibin .sub) [.s 23, .k (.int .i64 1)]⟩ (.op ⟨some 25, some (21, true), .ex (.ia 5) [.s 22, .s 24]⟩ (.op ⟨some 26, some (21, true), .ex (.fa 0) [.s 25]⟩ (.op ⟨some 27, some (21, true), .ex (.ld 1) [.s 26]⟩ (.op ⟨some 28, some (21, true), .ex (.fa 0) [.s 7]⟩ (.op ⟨some 29, some (21, true), .ex (.ld 1) [.s 28]⟩ (.op ⟨some 30, some (21, true), .ex (.ibin .geq) [.s 27, .s 29]⟩ (.op ⟨some 31, none, .ex (.pick) [.s 21, .s 30, .k (.bool false)]⟩ (.op ⟨some 32, none, .ex (.mov) [.s 31]⟩ (.op ⟨some 33, some (32, false), .ex (.fa 1) [.s 7]⟩ (.op ⟨some 34, some (32, false), .ex (.lda 4) [.s 33]⟩ (.op ⟨some 35, some (32, false), .callf 65 [.s 34]⟩ (.op ⟨some 36, some (32, false), .ex (.bnot) [.s 35]⟩ (.op ⟨some 37, none, .ex (.pick) [.s 32, .k (.bool true), .s 36]⟩ (.op ⟨some 18, none, .ex (.mov) [.s 37]⟩ .done)))))))))))))))))))))
               (.cond (.s 18)
                (.seq
                 (.region [⟨some 4, none, .ex (.mov) [.k (.int .i64 3)]⟩])
                 .ret)
                (.seq
                 (.region [⟨some 39, none, .ex (.mov) [.s 0]⟩,
                   ⟨some 40, none, .ex (.fa 0) [.s 7]⟩,
                   ⟨some 41, none, .ex (.ld 1) [.s 40]⟩,
                   ⟨some 42, none, .ex (.fa 1) [.s 7]⟩,
                   ⟨some 43, none, .ex (.lda 4) [.s 42]⟩,
                   ⟨some 44, none, .callf 66 [.s 39, .s 41, .s 43]⟩,
                   ⟨some 45, none, .ex (.bnot) [.s 44]⟩,
                   ⟨some 38, none, .ex (.mov) [.s 45]⟩])
                 (.cond (.s 38)
                  (.region [⟨some 5, none, .ex (.mov) [.k (.int .i64 4)]⟩])
                  .skip)))))))
           (.region [⟨some 46, none, .ex (.ibin .add) [.s 13, .k (.int .i64 1)]⟩,
             ⟨some 13, none, .ex (.mov) [.s 46]⟩])))))))
     (.seq
      (.region [⟨some 47, none, .ex (.mov) [.s 5]⟩,
        ⟨some 4, none, .ex (.mov) [.s 47]⟩])
      .ret))))),
 [.t 4]⟩
theorem c39 : compFn Go.Proofs.Tryd.prog 39 = some fn39 := by kernel_rfl

/-- cmp.isNaN[int] -/
def fn56 : AFn := ⟨6,
 (.seq
  (.region [⟨some 2, none, .ex (.mov) [.k (.bool false)]⟩])
  (.seq
   (.region [⟨some 3, none, .ex (.mov) [.s 0]⟩,
     ⟨some 4, none, .ex (.mov) [.s 0]⟩,
     ⟨some 5, none, .ex (.ibin .neq) [.s 3, .s 4]⟩,
     ⟨some 2, none, .ex (.mov) [.s 5]⟩])
   .ret)),
 [.t 2]⟩
theorem c56 : compFn Go.Proofs.Tryd.prog 56 = some fn56 := by kernel_rfl

/-- rubric/ops.form -/
def fn57 : AFn := ⟨47,
 (.seq
  (.region [⟨some 1, none, .ex (.box) [.s 0]⟩,
    ⟨some 2, none, .ex (.mov) [.k (.bool false)]⟩])
  (.seq
   (.region [⟨some 4, none, .ex (.fa 2) [.s 1]⟩,
     ⟨some 5, none, .ex (.ld 1) [.s 4]⟩,
     ⟨some 6, none, .ex (.len) [.s 5]⟩,
     ⟨some 7, none, .ex (.ibin .gtr) [.s 6, .k (.int .i64 0)]⟩,
     ⟨some 8, none, .ex (.mov) [.s 7]⟩,
     ⟨some 9, some (8, false), .ex (.fa 3) [.s 1]⟩,
     ⟨some 10, some (8, false), .ex (.ld 1) [.s 9]⟩,
     ⟨some 11, some (8, false), .ex (.len) [.s 10]⟩,
     ⟨some 12, some (8, false), .ex (.ibin .gtr) [.s 11, .k (.int .i64 0)]⟩,
     ⟨some 13, none, .ex (.pick) [.s 8, .k (.bool true), .s 12]⟩,
     ⟨some 3, none, .ex (.mov) [.s 13]⟩])
   (.seq
    (.seq
     (.region [⟨some 14, none, .ex (.fa 0) [.s 1]⟩,
       ⟨some 15, none, .ex (.ld 1) [.s 14]⟩])
     (.block 0
      (.seq
       (.region [⟨some 17, none, .ex (.ibin .eql) [.s 15, .k (.int .u8 1)]⟩,
         ⟨some 16, none, .ex (.mov) [.s 17]⟩])
       (.cond (.s 16)
        (.seq
         (.region [⟨some 18, none, .ex (.mov) [.s 3]⟩,
           ⟨some 19, none, .ex (.bnot) [.s 18]⟩,
           ⟨some 2, none, .ex (.mov) [.s 19]⟩])
         .ret)
        (.seq
         (.region [⟨some 21, none, .ex (.ibin .eql) [.s 15, .k (.int .u8 3)]⟩,
           ⟨some 20, none, .ex (.mov) [.s 21]⟩])
         (.cond (.s 20)
          (.seq
           (.region [⟨some 22, none, .ex (.mov) [.s 3]⟩,
             ⟨some 23, none, .ex (.bnot) [.s 22]⟩,
             ⟨some 24, none, .ex (.mov) [.s 23]⟩,
             ⟨some 25, some (24, true), .ex (.fa 4) [.s 1]⟩,
             ⟨some 26, some (24, true), .ex (.ld 1) [.s 25]⟩,
             ⟨some 27, some (24, true), .ex (.len) [.s 26]⟩,
             ⟨some 28, some (24, true), .ex (.ibin .eql) [.s 27, .k (.int .i64 0)]⟩,
             ⟨some 29, none, .ex (.pick) [.s 24, .s 28, .k (.bool false)]⟩,
             ⟨some 2, none, .ex (.mov) [.s 29]⟩])
           .ret)
          (.seq
           (.region [⟨some 31, none, .ex (.ibin .eql) [.s 15, .k (.int .u8 2)]⟩,
             ⟨some 30, none, .ex (.mov) [.s 31]⟩])
           (.cond (.s 30)
            (.seq
             (.region [⟨some 32, none, .ex (.fa 1) [.s 1]⟩,
               ⟨some 33, none, .ex (.ld 1) [.s 32]⟩,
               ⟨some 34, none, .ex (.ibin .eql) [.s 33, .k (.int .i64 0)]⟩,
               ⟨some 35, none, .ex (.mov) [.s 34]⟩,
               ⟨some 36, some (35, true), .ex (.fa 4) [.s 1]⟩,
               ⟨some 37, some (35, true), .ex (.ld 1) [.s 36]⟩,
               ⟨some 38, some (35, true), .ex (.len) [.s 37]⟩,
               ⟨some 39, some (35, true), .ex (.ibin .eql) [.s 38, .k (.int .i64 0)]⟩,
               ⟨some 40, none, .ex (.pick) [.s 35, .s 39, .k (.bool false)]⟩,
               ⟨some 41, none, .ex (.mov) [.s 40]⟩,
               ⟨some 42, some (41, true), .ex (.fa 2) [.s 1]⟩,
               ⟨some 43, some (41, true), .ex (.ld 1) [.s 42]⟩,
               ⟨some 44, some (41, true), .callf 85 [.s 43, .k (.fn (.func 86) [] [])]⟩,
               ⟨some 45, some (41, true), .ex (.bnot) [.s 44]⟩,
               ⟨some 46, none, .ex (.pick) [.s 41, .s 45, .k (.bool false)]⟩,
               ⟨some 2, none, .ex (.mov) [.s 46]⟩])
             .ret)
            .skip))))))))
    (.seq
     (.region [⟨some 2, none, .ex (.mov) [.k (.bool false)]⟩])
     .ret)))),
 [.t 2]⟩
theorem c57 : compFn Go.Proofs.Tryd.prog 57 = some fn57 := by kernel_rfl

/-- rubric/patch.May -/
def fn58 : AFn := ⟨77,
 (.seq
  (.region [⟨some 4, none, .ex (.mov) [.k (.int .i64 0)]⟩])
  (.seq
   (.seq
    (.region [⟨some 10, none, .ex (.mov) [.s 1]⟩,
      ⟨some 11, none, .ex (.len) [.s 10]⟩,
      ⟨some 12, none, .ex (.ibin .gtr) [.s 11, .k (.int .i64 64)]⟩])
    (.cond (.s 12)
     (.seq
      (.region [⟨some 4, none, .ex (.mov) [.k (.int .i64 3)]⟩])
      .ret)
     .skip))
   (.seq
    (.region [⟨some 5, none, .ex (.mov) [.k (.int .i64 0)]⟩])
    (.seq
     (.seq
      (.region [⟨some 13, none, .ex (.mov) [.s 1]⟩,
        ⟨some 14, none, .ex (.len) [.s 13]⟩,
        ⟨some 15, none, .ex (.mov) [.k (.int .i64 0)]⟩])
      (.block 0
       (.loop
        (.seq
         (.region [⟨some 16, none, .ex (.ibin .lss) [.s 15, .s 14]⟩])
         (.seq
          (.cond (.s 16)
           .skip
           (.exit 0))
          (.seq
           (.block 1
            (.seq
             (.region [⟨some 17, none, .ex (.mov) [.s 15]⟩,
               ⟨some 18, none, .ex (.ia 6) [.s 13, .s 15]⟩,
               ⟨some 19, none, .ex (.lda 6) [.s 18]⟩,
               ⟨some 7, none, .ex (.alloc [(.int .i64 0), (.bool false), (.int .u8 0), (.int .i64 0), (.int .u64 0), (.str ⟨#[]⟩)]) []⟩,
               ⟨some 6, none, .ex (.mov) [.s 17]⟩,
               ⟨none, none, .ex (.st 6) [.s 7, .s 19]⟩])
             (.seq
              (.region [⟨some 21, none, .ex (.mov) [.s 0]⟩,
                ⟨some 22, none, .ex (.fa 0) [.s 7]⟩,
                ⟨some 23, none, .ex (.ld 1) [.s 22]⟩,
                ⟨some 24, none, .callf 62 [.s 21, .s 23]⟩,
                ⟨some 20, none, .ex (.mov) [.s 24]⟩,
                ⟨some 25, none, .ex (.ext 0) [.s 20]⟩,
                ⟨some 26, none, .ex (.ext 1) [.s 20]⟩,
                ⟨some 8, none, .ex (.alloc [(.int .i64 0), (.bool false), (.int .u8 0), (.bool false), (.bool false), (.int .i64 0)]) []⟩,
                ⟨none, none, .ex (.st 6) [.s 8, .s 25]⟩,
                ⟨some 9, none, .ex (.mov) [.s 26]⟩])
              (.block 2
               (.seq
                (.seq
                 (.draw (.op ⟨some 28, none, .ex (.mov) [.s 6]⟩ (.op ⟨some 29, none, .ex (.ibin .gtr) [.s 28, .k (.int .i64 0)]⟩ (.op ⟨some 30, none, .ex (.mov) [.s 29]⟩ (.op ⟨some 31, some (30, true), .ex (.mov) [.s 1]⟩ (.op ⟨some 32, some (30, true), .ex (.mov) [.s 6]⟩ (.op ⟨some 33, some (30, true), .ex (.ibin .sub) [.s 32, .k (.int .i64 1)]⟩ (.op ⟨some 34, some (30, true), .ex (.ia 6) [.s 31, .s 33]⟩ (.op ⟨some 35, some (30, true), .ex (.fa 0) [.s 34]⟩ (.op ⟨some 36, some (30, true), .ex (.ld 1) [.s 35]⟩ (.op ⟨some 37, some (30, true), .ex (.fa 0) [.s 7]⟩ (.op ⟨some 38, some (30, true), .ex (.ld 1) [.s 37]⟩ (.op ⟨some 39, some (30, true), .ex (.ibin .geq) [.s 36, .s 38]⟩ (.op ⟨some 40, none, .ex (.pick) [.s 30, .s 39, .k (.bool false)]⟩ (.op ⟨some 27, none, .ex (.mov) [.s 40]⟩ .done)))))))))))))))
                 (.cond (.s 27)
                  .skip
                  (.seq
                   (.region [⟨some 41, none, .ex (.fa 1) [.s 7]⟩,
                     ⟨some 42, none, .ex (.ld 1) [.s 41]⟩,
                     ⟨some 43, none, .ex (.mov) [.s 42]⟩,
                     ⟨some 44, some (43, true), .ex (.fa 2) [.s 7]⟩,
                     ⟨some 45, some (43, true), .ex (.lda 4) [.s 44]⟩,
                     ⟨some 46, some (43, true), .ex (.build [(.int .u8 0), (.int .i64 0), (.int .u64 0), (.str ⟨#[]⟩)] []) []⟩,
                     ⟨some 47, some (43, true), .ex (.eqagg true [0, 0, 0, 2]) [.s 45, .s 46]⟩,
                     ⟨some 48, none, .ex (.pick) [.s 43, .s 47, .k (.bool false)]⟩,
                     ⟨some 27, none, .ex (.mov) [.s 48]⟩])
                   (.cond (.s 27)
                    .skip
                    (.region [⟨some 49, none, .ex (.fa 1) [.s 7]⟩,
                      ⟨some 50, none, .ex (.ld 1) [.s 49]⟩,
                      ⟨some 51, none, .ex (.bnot) [.s 50]⟩,
                      ⟨some 52, none, .ex (.mov) [.s 51]⟩,
                      ⟨some 53, some (52, true), .ex (.fa 2) [.s 7]⟩,
                      ⟨some 54, some (52, true), .ex (.lda 4) [.s 53]⟩,
                      ⟨some 55, some (52, true), .callf 65 [.s 54]⟩,
                      ⟨some 56, some (52, true), .ex (.bnot) [.s 55]⟩,
                      ⟨some 57, none, .ex (.pick) [.s 52, .s 56, .k (.bool false)]⟩,
                      ⟨some 27, none, .ex (.mov) [.s 57]⟩])))))
                (.cond (.s 27)
                 (.seq
                  (.region [⟨some 4, none, .ex (.mov) [.k (.int .i64 3)]⟩])
                  .ret)
                 (.seq
                  (.region [⟨some 59, none, .ex (.mov) [.s 9]⟩,
                    ⟨some 60, none, .ex (.bnot) [.s 59]⟩,
                    ⟨some 61, none, .ex (.mov) [.s 60]⟩,
                    ⟨some 62, some (61, false), .ex (.fa 1) [.s 7]⟩,
                    ⟨some 63, some (61, false), .ex (.ld 1) [.s 62]⟩,
                    ⟨some 64, some (61, false), .ex (.bnot) [.s 63]⟩,
                    ⟨some 65, some (61, false), .ex (.mov) [.s 64]⟩,
                    ⟨some 66, some (65, true), .ex (.mov) [.s 0]⟩,
                    ⟨some 67, some (65, true), .ex (.fa 0) [.s 7]⟩,
                    ⟨some 68, some (65, true), .ex (.ld 1) [.s 67]⟩,
                    ⟨some 69, some (65, true), .ex (.fa 2) [.s 7]⟩,
                    ⟨some 70, some (65, true), .ex (.lda 4) [.s 69]⟩,
                    ⟨some 71, some (65, true), .callf 66 [.s 66, .s 68, .s 70]⟩,
                    ⟨some 72, some (65, true), .ex (.bnot) [.s 71]⟩,
                    ⟨some 73, some (61, false), .ex (.pick) [.s 65, .s 72, .k (.bool false)]⟩,
                    ⟨some 74, none, .ex (.pick) [.s 61, .k (.bool true), .s 73]⟩,
                    ⟨some 58, none, .ex (.mov) [.s 74]⟩])
                  (.cond (.s 58)
                   (.region [⟨some 5, none, .ex (.mov) [.k (.int .i64 4)]⟩])
                   .skip))))))))
           (.region [⟨some 75, none, .ex (.ibin .add) [.s 15, .k (.int .i64 1)]⟩,
             ⟨some 15, none, .ex (.mov) [.s 75]⟩])))))))
     (.seq
      (.region [⟨some 76, none, .ex (.mov) [.s 5]⟩,
        ⟨some 4, none, .ex (.mov) [.s 76]⟩])
      .ret))))),
 [.t 4]⟩
theorem c58 : compFn Go.Proofs.Tryd.prog 58 = some fn58 := by kernel_rfl

/-- slices.DeleteFunc[[]rubric/api.Attr,rubric/api.Attr] -/
def fn59 : AFn := ⟨42,
 (.seq
  (.region [⟨some 4, none, .ex (.mov) [.k .nils]⟩])
  (.seq
   (.region [⟨some 8, none, .ex (.mov) [.s 0]⟩,
     ⟨some 9, none, .ex (.mov) [.s 1]⟩,
     ⟨some 10, none, .callf 87 [.s 8, .s 9]⟩,
     ⟨some 5, none, .ex (.mov) [.s 10]⟩])
   (.seq
    (.seq
     (.region [⟨some 11, none, .ex (.mov) [.s 5]⟩,
       ⟨some 12, none, .ex (.ibin .eql) [.s 11, .k (.int .i64 (-1))]⟩])
     (.cond (.s 12)
      (.seq
       (.region [⟨some 13, none, .ex (.mov) [.s 0]⟩,
         ⟨some 4, none, .ex (.mov) [.s 13]⟩])
       .ret)
      .skip))
    (.seq
     (.seq
      (.region [⟨some 14, none, .ex (.mov) [.s 5]⟩,
        ⟨some 15, none, .ex (.ibin .add) [.s 14, .k (.int .i64 1)]⟩,
        ⟨some 6, none, .ex (.mov) [.s 15]⟩])
      (.block 0
       (.loop
        (.seq
         (.seq
          (.region [⟨some 16, none, .ex (.mov) [.s 6]⟩,
            ⟨some 17, none, .ex (.mov) [.s 0]⟩,
            ⟨some 18, none, .ex (.len) [.s 17]⟩,
            ⟨some 19, none, .ex (.ibin .lss) [.s 16, .s 18]⟩])
          (.cond (.s 19)
           .skip
           (.exit 0)))
         (.seq
          (.block 1
           (.seq
            (.region [⟨some 22, none, .ex (.mov) [.s 0]⟩,
              ⟨some 23, none, .ex (.mov) [.s 6]⟩,
              ⟨some 24, none, .ex (.ia 5) [.s 22, .s 23]⟩,
              ⟨some 25, none, .ex (.lda 5) [.s 24]⟩,
              ⟨some 7, none, .ex (.alloc [(.int .i64 0), (.int .u8 0), (.int .i64 0), (.int .u64 0), (.str ⟨#[]⟩)]) []⟩,
              ⟨none, none, .ex (.st 5) [.s 7, .s 25]⟩])
            (.seq
             (.region [⟨some 26, none, .ex (.mov) [.s 1]⟩,
               ⟨some 27, none, .ex (.lda 5) [.s 7]⟩,
               ⟨some 28, none, .callv (.s 26) [.s 27]⟩,
               ⟨some 29, none, .ex (.bnot) [.s 28]⟩])
             (.cond (.s 29)
              (.seq
               (.region [⟨some 30, none, .ex (.mov) [.s 0]⟩,
                 ⟨some 31, none, .ex (.mov) [.s 5]⟩,
                 ⟨some 32, none, .ex (.lda 5) [.s 7]⟩,
                 ⟨some 33, none, .ex (.ia 5) [.s 30, .s 31]⟩,
                 ⟨none, none, .ex (.st 5) [.s 33, .s 32]⟩])
               (.region [⟨some 34, none, .ex (.mov) [.s 5]⟩,
                 ⟨some 35, none, .ex (.ibin .add) [.s 34, .k (.int .i64 1)]⟩,
                 ⟨some 5, none, .ex (.mov) [.s 35]⟩]))
              .skip))))
          (.region [⟨some 20, none, .ex (.mov) [.s 6]⟩,
            ⟨some 21, none, .ex (.ibin .add) [.s 20, .k (.int .i64 1)]⟩,
            ⟨some 6, none, .ex (.mov) [.s 21]⟩]))))))
     (.seq
      (.region [⟨some 36, none, .ex (.mov) [.s 0]⟩,
        ⟨some 37, none, .ex (.mov) [.s 5]⟩,
        ⟨some 38, none, .ex (.slc 5 true false false) [.s 36, .s 37]⟩,
        ⟨none, none, .ex (.clear [(.int .i64 0), (.int .u8 0), (.int .i64 0), (.int .u64 0), (.str ⟨#[]⟩)]) [.s 38]⟩])
      (.seq
       (.region [⟨some 39, none, .ex (.mov) [.s 0]⟩,
         ⟨some 40, none, .ex (.mov) [.s 5]⟩,
         ⟨some 41, none, .ex (.slc 5 false true false) [.s 39, .s 40]⟩,
         ⟨some 4, none, .ex (.mov) [.s 41]⟩])
       .ret)))))),
 [.t 4]⟩
theorem c59 : compFn Go.Proofs.Tryd.prog 59 = some fn59 := by kernel_rfl

/-- slices.Clone[[]rubric/api.Attr,rubric/api.Attr] -/
def fn60 : AFn := ⟨8,
 (.seq
  (.region [⟨some 2, none, .ex (.mov) [.k .nils]⟩])
  (.seq
   (.seq
    (.region [⟨some 3, none, .ex (.mov) [.s 0]⟩,
      ⟨some 4, none, .ex (.eqnil 1 false) [.s 3, .k .nils]⟩])
    (.cond (.s 4)
     (.seq
      (.region [⟨some 2, none, .ex (.mov) [.k .nils]⟩])
      .ret)
     .skip))
   (.seq
    (.region [⟨some 5, none, .ex (.bsl 5 0 [] []) []⟩,
      ⟨some 6, none, .ex (.mov) [.s 0]⟩,
      ⟨some 7, none, .ex (.app 5 48) [.s 5, .s 6]⟩,
      ⟨some 2, none, .ex (.mov) [.s 7]⟩])
    .ret))),
 [.t 2]⟩
theorem c60 : compFn Go.Proofs.Tryd.prog 60 = some fn60 := by kernel_rfl

/-- rubric/attrs.Part$1 -/
def fn61 : AFn := ⟨22,
 (.seq
  (.region [⟨some 3, none, .ex (.box) [.s 0]⟩,
    ⟨some 4, none, .ex (.mov) [.k (.bool false)]⟩])
  (.seq
   (.region [⟨some 8, none, .ex (.ld 1) [.s 1]⟩,
     ⟨some 9, none, .ex (.fa 0) [.s 3]⟩,
     ⟨some 10, none, .ex (.ld 1) [.s 9]⟩,
     ⟨some 11, none, .callf 62 [.s 8, .s 10]⟩,
     ⟨some 7, none, .ex (.mov) [.s 11]⟩,
     ⟨some 12, none, .ex (.ext 0) [.s 7]⟩,
     ⟨some 13, none, .ex (.ext 1) [.s 7]⟩,
     ⟨some 5, none, .ex (.alloc [(.int .i64 0), (.bool false), (.int .u8 0), (.bool false), (.bool false), (.int .i64 0)]) []⟩,
     ⟨none, none, .ex (.st 6) [.s 5, .s 12]⟩,
     ⟨some 6, none, .ex (.mov) [.s 13]⟩])
   (.seq
    (.region [⟨some 14, none, .ex (.mov) [.s 6]⟩,
      ⟨some 15, none, .ex (.bnot) [.s 14]⟩,
      ⟨some 16, none, .ex (.mov) [.s 15]⟩,
      ⟨some 17, some (16, false), .ex (.fa 1) [.s 5]⟩,
      ⟨some 18, some (16, false), .ex (.ld 1) [.s 17]⟩,
      ⟨some 19, some (16, false), .ex (.ld 1) [.s 2]⟩,
      ⟨some 20, some (16, false), .ex (.bbin true) [.s 18, .s 19]⟩,
      ⟨some 21, none, .ex (.pick) [.s 16, .k (.bool true), .s 20]⟩,
      ⟨some 4, none, .ex (.mov) [.s 21]⟩])
    .ret))),
 [.t 4]⟩
theorem c61 : compFn Go.Proofs.Tryd.prog 61 = some fn61 := by kernel_rfl

/-- (*rubric/schema.Schema).Find -/
def fn62 : AFn := ⟨22,
 (.seq
  (.region [⟨some 4, none, .ex (.alloc [(.int .i64 0), (.bool false), (.int .u8 0), (.bool false), (.bool false), (.int .i64 0)]) []⟩,
    ⟨some 5, none, .ex (.mov) [.k (.bool false)]⟩])
  (.seq
   (.seq
    (.region [⟨some 8, none, .ex (.mov) [.s 0]⟩,
      ⟨some 9, none, .ex (.eqnil 0 false) [.s 8, .k .nilp]⟩])
    (.cond (.s 9)
     (.seq
      (.region [⟨some 10, none, .ex (.build [(.int .i64 0), (.bool false), (.int .u8 0), (.bool false), (.bool false), (.int .i64 0)] []) []⟩,
        ⟨none, none, .ex (.st 6) [.s 4, .s 10]⟩,
        ⟨some 5, none, .ex (.mov) [.k (.bool false)]⟩])
      .ret)
     .skip))
   (.seq
    (.region [⟨some 12, none, .ex (.mov) [.s 0]⟩,
      ⟨some 13, none, .ex (.nilck) [.s 12]⟩,
      ⟨some 14, none, .ex (.fa 1) [.s 13]⟩,
      ⟨some 15, none, .ex (.ld 1) [.s 14]⟩,
      ⟨some 16, none, .ex (.mov) [.s 1]⟩,
      ⟨some 17, none, .ex (.look 0 (.agg [(.int .i64 0), (.bool false), (.int .u8 0), (.bool false), (.bool false), (.int .i64 0)]) true) [.s 15, .s 16]⟩,
      ⟨some 11, none, .ex (.mov) [.s 17]⟩,
      ⟨some 18, none, .ex (.ext 0) [.s 11]⟩,
      ⟨some 19, none, .ex (.ext 1) [.s 11]⟩,
      ⟨some 6, none, .ex (.alloc [(.int .i64 0), (.bool false), (.int .u8 0), (.bool false), (.bool false), (.int .i64 0)]) []⟩,
      ⟨none, none, .ex (.st 6) [.s 6, .s 18]⟩,
      ⟨some 7, none, .ex (.mov) [.s 19]⟩])
    (.seq
     (.region [⟨some 20, none, .ex (.lda 6) [.s 6]⟩,
       ⟨some 21, none, .ex (.mov) [.s 7]⟩,
       ⟨none, none, .ex (.st 6) [.s 4, .s 20]⟩,
       ⟨some 5, none, .ex (.mov) [.s 21]⟩])
     .ret)))),
 [.ca 4 6, .t 5]⟩
theorem c62 : compFn Go.Proofs.Tryd.prog 62 = some fn62 := by kernel_rfl

/-- unicode/utf8.ValidRune -/
def fn64 : AFn := ⟨17,
 (.seq
  (.region [⟨some 2, none, .ex (.mov) [.k (.bool false)]⟩])
  (.seq
   (.block 0
    (.seq
     (.region [⟨some 4, none, .ex (.mov) [.s 0]⟩,
       ⟨some 5, none, .ex (.ibin .leq) [.k (.int .i32 0), .s 4]⟩,
       ⟨some 6, none, .ex (.mov) [.s 5]⟩,
       ⟨some 7, some (6, true), .ex (.mov) [.s 0]⟩,
       ⟨some 8, some (6, true), .ex (.ibin .lss) [.s 7, .k (.int .i32 55296)]⟩,
       ⟨some 9, none, .ex (.pick) [.s 6, .s 8, .k (.bool false)]⟩,
       ⟨some 3, none, .ex (.mov) [.s 9]⟩])
     (.cond (.s 3)
      (.seq
       (.region [⟨some 2, none, .ex (.mov) [.k (.bool true)]⟩])
       .ret)
      (.seq
       (.region [⟨some 11, none, .ex (.mov) [.s 0]⟩,
         ⟨some 12, none, .ex (.ibin .lss) [.k (.int .i32 57343), .s 11]⟩,
         ⟨some 13, none, .ex (.mov) [.s 12]⟩,
         ⟨some 14, some (13, true), .ex (.mov) [.s 0]⟩,
         ⟨some 15, some (13, true), .ex (.ibin .leq) [.s 14, .k (.int .i32 1114111)]⟩,
         ⟨some 16, none, .ex (.pick) [.s 13, .s 15, .k (.bool false)]⟩,
         ⟨some 10, none, .ex (.mov) [.s 16]⟩])
       (.cond (.s 10)
        (.seq
         (.region [⟨some 2, none, .ex (.mov) [.k (.bool true)]⟩])
         .ret)
        .skip)))))
   (.seq
    (.region [⟨some 2, none, .ex (.mov) [.k (.bool false)]⟩])
    .ret))),
 [.t 2]⟩
theorem c64 : compFn Go.Proofs.Tryd.prog 64 = some fn64 := by kernel_rfl

/-- rubric/value.May -/
def fn65 : AFn := ⟨45,
 (.seq
  (.region [⟨some 1, none, .ex (.box) [.s 0]⟩,
    ⟨some 2, none, .ex (.mov) [.k (.bool false)]⟩])
  (.seq
   (.seq
    (.region [⟨some 5, none, .ex (.fa 0) [.s 1]⟩,
      ⟨some 6, none, .ex (.ld 1) [.s 5]⟩])
    (.block 0
     (.seq
      (.region [⟨some 8, none, .ex (.ibin .eql) [.s 6, .k (.int .u8 1)]⟩,
        ⟨some 7, none, .ex (.mov) [.s 8]⟩])
      (.cond (.s 7)
       (.seq
        (.draw (.op ⟨some 10, none, .ex (.fa 1) [.s 1]⟩ (.op ⟨some 11, none, .ex (.ld 1) [.s 10]⟩ (.op ⟨some 12, none, .ex (.ibin .eql) [.s 11, .k (.int .i64 1)]⟩ (.fork (.op ⟨some 9, none, .ex (.lda 4) [.s 1]⟩ (.op ⟨some 13, none, .callf 88 [.s 12]⟩ (.op ⟨some 14, none, .ex (.eqagg false [0, 0, 0, 2]) [.s 9, .s 13]⟩ (.op ⟨some 2, none, .ex (.mov) [.s 14]⟩ .done)))) (.op ⟨some 13, none, .callf 88 [.s 12]⟩ (.op ⟨some 9, none, .ex (.lda 4) [.s 1]⟩ (.op ⟨some 14, none, .ex (.eqagg false [0, 0, 0, 2]) [.s 9, .s 13]⟩ (.op ⟨some 2, none, .ex (.mov) [.s 14]⟩ .done)))))))))
        .ret)
       (.seq
        (.region [⟨some 16, none, .ex (.ibin .eql) [.s 6, .k (.int .u8 2)]⟩,
          ⟨some 15, none, .ex (.mov) [.s 16]⟩])
        (.cond (.s 15)
         (.seq
          (.draw (.op ⟨some 18, none, .ex (.fa 1) [.s 1]⟩ (.op ⟨some 19, none, .ex (.ld 1) [.s 18]⟩ (.fork (.op ⟨some 17, none, .ex (.lda 4) [.s 1]⟩ (.op ⟨some 20, none, .callf 89 [.s 19]⟩ (.op ⟨some 21, none, .ex (.eqagg false [0, 0, 0, 2]) [.s 17, .s 20]⟩ (.op ⟨some 2, none, .ex (.mov) [.s 21]⟩ .done)))) (.op ⟨some 20, none, .callf 89 [.s 19]⟩ (.op ⟨some 17, none, .ex (.lda 4) [.s 1]⟩ (.op ⟨some 21, none, .ex (.eqagg false [0, 0, 0, 2]) [.s 17, .s 20]⟩ (.op ⟨some 2, none, .ex (.mov) [.s 21]⟩ .done))))))))
          .ret)
         (.seq
          (.region [⟨some 23, none, .ex (.ibin .eql) [.s 6, .k (.int .u8 3)]⟩,
            ⟨some 22, none, .ex (.mov) [.s 23]⟩])
          (.cond (.s 22)
           (.seq
            (.draw (.op ⟨some 25, none, .ex (.fa 2) [.s 1]⟩ (.op ⟨some 26, none, .ex (.ld 1) [.s 25]⟩ (.op ⟨some 27, none, .ffrom 91 (.s 26)⟩ (.fork (.op ⟨some 24, none, .ex (.lda 4) [.s 1]⟩ (.op ⟨some 28, none, .callf 90 [.s 27]⟩ (.op ⟨some 29, none, .ex (.eqagg false [0, 0, 0, 2]) [.s 24, .s 28]⟩ (.op ⟨some 2, none, .ex (.mov) [.s 29]⟩ .done)))) (.op ⟨some 28, none, .callf 90 [.s 27]⟩ (.op ⟨some 24, none, .ex (.lda 4) [.s 1]⟩ (.op ⟨some 29, none, .ex (.eqagg false [0, 0, 0, 2]) [.s 24, .s 28]⟩ (.op ⟨some 2, none, .ex (.mov) [.s 29]⟩ .done)))))))))
            .ret)
           (.seq
            (.region [⟨some 31, none, .ex (.ibin .eql) [.s 6, .k (.int .u8 4)]⟩,
              ⟨some 30, none, .ex (.mov) [.s 31]⟩])
            (.cond (.s 30)
             (.seq
              (.region [⟨some 33, none, .ex (.fa 3) [.s 1]⟩,
                ⟨some 34, none, .ex (.ld 1) [.s 33]⟩,
                ⟨some 35, none, .callf 92 [.s 34]⟩,
                ⟨some 32, none, .ex (.mov) [.s 35]⟩,
                ⟨some 36, none, .ex (.ext 0) [.s 32]⟩,
                ⟨some 37, none, .ex (.ext 1) [.s 32]⟩,
                ⟨some 3, none, .ex (.alloc [(.int .u8 0), (.int .i64 0), (.int .u64 0), (.str ⟨#[]⟩)]) []⟩,
                ⟨none, none, .ex (.st 4) [.s 3, .s 36]⟩,
                ⟨some 4, none, .ex (.mov) [.s 37]⟩])
              (.seq
               (.region [⟨some 38, none, .ex (.mov) [.s 4]⟩,
                 ⟨some 39, none, .ex (.ibin .eql) [.s 38, .k (.int .i64 0)]⟩,
                 ⟨some 40, none, .ex (.mov) [.s 39]⟩,
                 ⟨some 41, some (40, true), .ex (.lda 4) [.s 1]⟩,
                 ⟨some 42, some (40, true), .ex (.lda 4) [.s 3]⟩,
                 ⟨some 43, some (40, true), .ex (.eqagg false [0, 0, 0, 2]) [.s 41, .s 42]⟩,
                 ⟨some 44, none, .ex (.pick) [.s 40, .s 43, .k (.bool false)]⟩,
                 ⟨some 2, none, .ex (.mov) [.s 44]⟩])
               .ret))
             .skip))))))))))
   (.seq
    (.region [⟨some 2, none, .ex (.mov) [.k (.bool false)]⟩])
    .ret))),
 [.t 2]⟩
theorem c65 : compFn Go.Proofs.Tryd.prog 65 = some fn65 := by kernel_rfl

/-- (*rubric/schema.Schema).Fits -/
def fn66 : AFn := ⟨27,
 (.seq
  (.region [⟨some 5, none, .ex (.box) [.s 2]⟩,
    ⟨some 6, none, .ex (.mov) [.k (.bool false)]⟩])
  (.seq
   (.region [⟨some 10, none, .ex (.mov) [.s 0]⟩,
     ⟨some 11, none, .ex (.mov) [.s 1]⟩,
     ⟨some 12, none, .callf 62 [.s 10, .s 11]⟩,
     ⟨some 9, none, .ex (.mov) [.s 12]⟩,
     ⟨some 13, none, .ex (.ext 0) [.s 9]⟩,
     ⟨some 14, none, .ex (.ext 1) [.s 9]⟩,
     ⟨some 7, none, .ex (.alloc [(.int .i64 0), (.bool false), (.int .u8 0), (.bool false), (.bool false), (.int .i64 0)]) []⟩,
     ⟨none, none, .ex (.st 6) [.s 7, .s 13]⟩,
     ⟨some 8, none, .ex (.mov) [.s 14]⟩])
   (.seq
    (.region [⟨some 15, none, .ex (.mov) [.s 8]⟩,
      ⟨some 16, none, .ex (.mov) [.s 15]⟩,
      ⟨some 17, some (16, true), .ex (.fa 2) [.s 7]⟩,
      ⟨some 18, some (16, true), .ex (.ld 1) [.s 17]⟩,
      ⟨some 19, some (16, true), .ex (.fa 0) [.s 5]⟩,
      ⟨some 20, some (16, true), .ex (.ld 1) [.s 19]⟩,
      ⟨some 21, some (16, true), .ex (.ibin .eql) [.s 18, .s 20]⟩,
      ⟨some 22, none, .ex (.pick) [.s 16, .s 21, .k (.bool false)]⟩,
      ⟨some 23, none, .ex (.mov) [.s 22]⟩,
      ⟨some 24, some (23, true), .ex (.lda 4) [.s 5]⟩,
      ⟨some 25, some (23, true), .callf 65 [.s 24]⟩,
      ⟨some 26, none, .ex (.pick) [.s 23, .s 25, .k (.bool false)]⟩,
      ⟨some 6, none, .ex (.mov) [.s 26]⟩])
    .ret))),
 [.t 6]⟩
theorem c66 : compFn Go.Proofs.Tryd.prog 66 = some fn66 := by kernel_rfl

/-- slices.ContainsFunc[[]int32,int32] -/
def fn85 : AFn := ⟨9,
 (.seq
  (.region [⟨some 4, none, .ex (.mov) [.k (.bool false)]⟩])
  (.seq
   (.region [⟨some 5, none, .ex (.mov) [.s 0]⟩,
     ⟨some 6, none, .ex (.mov) [.s 1]⟩,
     ⟨some 7, none, .callf 103 [.s 5, .s 6]⟩,
     ⟨some 8, none, .ex (.ibin .geq) [.s 7, .k (.int .i64 0)]⟩,
     ⟨some 4, none, .ex (.mov) [.s 8]⟩])
   .ret)),
 [.t 4]⟩
theorem c85 : compFn Go.Proofs.Tryd.prog 85 = some fn85 := by kernel_rfl

/-- rubric/ops.form$1 -/
def fn86 : AFn := ⟨6,
 (.seq
  (.region [⟨some 2, none, .ex (.mov) [.k (.bool false)]⟩])
  (.seq
   (.region [⟨some 3, none, .ex (.mov) [.s 0]⟩,
     ⟨some 4, none, .callf 38 [.s 3]⟩,
     ⟨some 5, none, .ex (.bnot) [.s 4]⟩,
     ⟨some 2, none, .ex (.mov) [.s 5]⟩])
   .ret)),
 [.t 2]⟩
theorem c86 : compFn Go.Proofs.Tryd.prog 86 = some fn86 := by kernel_rfl

/-- slices.IndexFunc[[]rubric/api.Attr,rubric/api.Attr] -/
def fn87 : AFn := ⟨19,
 (.seq
  (.region [⟨some 4, none, .ex (.mov) [.k (.int .i64 0)]⟩])
  (.seq
   (.seq
    (.region [⟨some 6, none, .ex (.mov) [.s 0]⟩,
      ⟨some 7, none, .ex (.len) [.s 6]⟩,
      ⟨some 8, none, .ex (.mov) [.k (.int .i64 0)]⟩])
    (.block 0
     (.loop
      (.seq
       (.region [⟨some 9, none, .ex (.ibin .lss) [.s 8, .s 7]⟩])
       (.seq
        (.cond (.s 9)
         .skip
         (.exit 0))
        (.seq
         (.block 1
          (.seq
           (.region [⟨some 10, none, .ex (.mov) [.s 8]⟩,
             ⟨some 5, none, .ex (.mov) [.s 10]⟩])
           (.seq
            (.region [⟨some 11, none, .ex (.mov) [.s 1]⟩,
              ⟨some 12, none, .ex (.mov) [.s 0]⟩,
              ⟨some 13, none, .ex (.mov) [.s 5]⟩,
              ⟨some 14, none, .ex (.ia 5) [.s 12, .s 13]⟩,
              ⟨some 15, none, .ex (.lda 5) [.s 14]⟩,
              ⟨some 16, none, .callv (.s 11) [.s 15]⟩])
            (.cond (.s 16)
             (.seq
              (.region [⟨some 17, none, .ex (.mov) [.s 5]⟩,
                ⟨some 4, none, .ex (.mov) [.s 17]⟩])
              .ret)
             .skip))))
         (.region [⟨some 18, none, .ex (.ibin .add) [.s 8, .k (.int .i64 1)]⟩,
           ⟨some 8, none, .ex (.mov) [.s 18]⟩])))))))
   (.seq
    (.region [⟨some 4, none, .ex (.mov) [.k (.int .i64 (-1))]⟩])
    .ret))),
 [.t 4]⟩
theorem c87 : compFn Go.Proofs.Tryd.prog 87 = some fn87 := by kernel_rfl

/-- rubric/value.Flag -/
def fn88 : AFn := ⟨8,
 (.seq
  (.region [⟨some 2, none, .ex (.alloc [(.int .u8 0), (.int .i64 0), (.int .u64 0), (.str ⟨#[]⟩)]) []⟩])
  (.seq
   (.region [⟨some 4, none, .ex (.build [(.int .u8 0), (.int .i64 0), (.int .u64 0), (.str ⟨#[]⟩)] [(0, 1)]) [.k (.int .u8 1)]⟩,
     ⟨some 3, none, .ex (.alloc [(.int .u8 0), (.int .i64 0), (.int .u64 0), (.str ⟨#[]⟩)]) []⟩,
     ⟨none, none, .ex (.st 4) [.s 3, .s 4]⟩])
   (.seq
    (.seq
     (.region [⟨some 5, none, .ex (.mov) [.s 0]⟩])
     (.cond (.s 5)
      (.region [⟨some 6, none, .ex (.fa 1) [.s 3]⟩,
        ⟨none, none, .ex (.st 1) [.s 6, .k (.int .i64 1)]⟩])
      .skip))
    (.seq
     (.region [⟨some 7, none, .ex (.lda 4) [.s 3]⟩,
       ⟨none, none, .ex (.st 4) [.s 2, .s 7]⟩])
     .ret)))),
 [.ca 2 4]⟩
theorem c88 : compFn Go.Proofs.Tryd.prog 88 = some fn88 := by kernel_rfl

/-- rubric/value.Int -/
def fn89 : AFn := ⟨5,
 (.seq
  (.region [⟨some 2, none, .ex (.alloc [(.int .u8 0), (.int .i64 0), (.int .u64 0), (.str ⟨#[]⟩)]) []⟩])
  (.seq
   (.region [⟨some 3, none, .ex (.mov) [.s 0]⟩,
     ⟨some 4, none, .ex (.build [(.int .u8 0), (.int .i64 0), (.int .u64 0), (.str ⟨#[]⟩)] [(0, 1), (1, 1)]) [.k (.int .u8 2), .s 3]⟩,
     ⟨none, none, .ex (.st 4) [.s 2, .s 4]⟩])
   .ret)),
 [.ca 2 4]⟩
theorem c89 : compFn Go.Proofs.Tryd.prog 89 = some fn89 := by kernel_rfl

/-- rubric/value.Float -/
def fn90 : AFn := ⟨9,
 (.seq
  (.region [⟨some 2, none, .ex (.alloc [(.int .u8 0), (.int .i64 0), (.int .u64 0), (.str ⟨#[]⟩)]) []⟩])
  (.seq
   (.seq
    (.region [⟨some 3, none, .ex (.mov) [.s 0]⟩,
      ⟨some 4, none, .callf 104 [.s 3]⟩])
    (.cond (.s 4)
     (.seq
      (.region [⟨some 5, none, .ex (.build [(.int .u8 0), (.int .i64 0), (.int .u64 0), (.str ⟨#[]⟩)] [(0, 1), (2, 1)]) [.k (.int .u8 3), .k (.int .u64 9221120237041090560)]⟩,
        ⟨none, none, .ex (.st 4) [.s 2, .s 5]⟩])
      .ret)
     .skip))
   (.seq
    (.region [⟨some 6, none, .ex (.mov) [.s 0]⟩,
      ⟨some 7, none, .fbits 105 (.s 6)⟩,
      ⟨some 8, none, .ex (.build [(.int .u8 0), (.int .i64 0), (.int .u64 0), (.str ⟨#[]⟩)] [(0, 1), (2, 1)]) [.k (.int .u8 3), .s 7]⟩,
      ⟨none, none, .ex (.st 4) [.s 2, .s 8]⟩])
    .ret))),
 [.ca 2 4]⟩
theorem c90 : compFn Go.Proofs.Tryd.prog 90 = some fn90 := by kernel_rfl

/-- rubric/value.Text -/
def fn92 : AFn := ⟨22,
 (.seq
  (.region [⟨some 2, none, .ex (.alloc [(.int .u8 0), (.int .i64 0), (.int .u64 0), (.str ⟨#[]⟩)]) []⟩,
    ⟨some 3, none, .ex (.mov) [.k (.int .i64 0)]⟩])
  (.seq
   (.seq
    (.region [⟨some 6, none, .ex (.mov) [.s 0]⟩,
      ⟨some 7, none, .ex (.slen) [.s 6]⟩,
      ⟨some 8, none, .ex (.ibin .gtr) [.s 7, .k (.int .i64 64)]⟩])
    (.cond (.s 8)
     (.seq
      (.region [⟨some 9, none, .ex (.build [(.int .u8 0), (.int .i64 0), (.int .u64 0), (.str ⟨#[]⟩)] []) []⟩,
        ⟨none, none, .ex (.st 4) [.s 2, .s 9]⟩,
        ⟨some 3, none, .ex (.mov) [.k (.int .i64 3)]⟩])
      .ret)
     .skip))
   (.seq
    (.seq
     (.region [⟨some 11, none, .ex (.mov) [.s 0]⟩,
       ⟨some 12, none, .ex (.s2b) [.s 11]⟩,
       ⟨some 13, none, .callf 106 [.s 12]⟩,
       ⟨some 10, none, .ex (.mov) [.s 13]⟩,
       ⟨some 14, none, .ex (.ext 0) [.s 10]⟩,
       ⟨some 15, none, .ex (.ext 1) [.s 10]⟩,
       ⟨some 4, none, .ex (.mov) [.s 14]⟩,
       ⟨some 5, none, .ex (.mov) [.s 15]⟩])
     (.seq
      (.region [⟨some 16, none, .ex (.mov) [.s 5]⟩,
        ⟨some 17, none, .ex (.ibin .neq) [.s 16, .k (.int .i64 0)]⟩])
      (.cond (.s 17)
       (.seq
        (.region [⟨some 18, none, .ex (.build [(.int .u8 0), (.int .i64 0), (.int .u64 0), (.str ⟨#[]⟩)] []) []⟩,
          ⟨some 19, none, .ex (.mov) [.s 5]⟩,
          ⟨none, none, .ex (.st 4) [.s 2, .s 18]⟩,
          ⟨some 3, none, .ex (.mov) [.s 19]⟩])
        .ret)
       .skip)))
    (.seq
     (.region [⟨some 20, none, .ex (.mov) [.s 0]⟩,
       ⟨some 21, none, .ex (.build [(.int .u8 0), (.int .i64 0), (.int .u64 0), (.str ⟨#[]⟩)] [(0, 1), (3, 1)]) [.k (.int .u8 4), .s 20]⟩,
       ⟨none, none, .ex (.st 4) [.s 2, .s 21]⟩,
       ⟨some 3, none, .ex (.mov) [.k (.int .i64 0)]⟩])
     .ret)))),
 [.ca 2 4, .t 3]⟩
theorem c92 : compFn Go.Proofs.Tryd.prog 92 = some fn92 := by kernel_rfl

/-- slices.IndexFunc[[]int32,int32] -/
def fn103 : AFn := ⟨19,
 (.seq
  (.region [⟨some 4, none, .ex (.mov) [.k (.int .i64 0)]⟩])
  (.seq
   (.seq
    (.region [⟨some 6, none, .ex (.mov) [.s 0]⟩,
      ⟨some 7, none, .ex (.len) [.s 6]⟩,
      ⟨some 8, none, .ex (.mov) [.k (.int .i64 0)]⟩])
    (.block 0
     (.loop
      (.seq
       (.region [⟨some 9, none, .ex (.ibin .lss) [.s 8, .s 7]⟩])
       (.seq
        (.cond (.s 9)
         .skip
         (.exit 0))
        (.seq
         (.block 1
          (.seq
           (.region [⟨some 10, none, .ex (.mov) [.s 8]⟩,
             ⟨some 5, none, .ex (.mov) [.s 10]⟩])
           (.seq
            (.region [⟨some 11, none, .ex (.mov) [.s 1]⟩,
              ⟨some 12, none, .ex (.mov) [.s 0]⟩,
              ⟨some 13, none, .ex (.mov) [.s 5]⟩,
              ⟨some 14, none, .ex (.ia 1) [.s 12, .s 13]⟩,
              ⟨some 15, none, .ex (.ld 1) [.s 14]⟩,
              ⟨some 16, none, .callv (.s 11) [.s 15]⟩])
            (.cond (.s 16)
             (.seq
              (.region [⟨some 17, none, .ex (.mov) [.s 5]⟩,
                ⟨some 4, none, .ex (.mov) [.s 17]⟩])
              .ret)
             .skip))))
         (.region [⟨some 18, none, .ex (.ibin .add) [.s 8, .k (.int .i64 1)]⟩,
           ⟨some 8, none, .ex (.mov) [.s 18]⟩])))))))
   (.seq
    (.region [⟨some 4, none, .ex (.mov) [.k (.int .i64 (-1))]⟩])
    .ret))),
 [.t 4]⟩
theorem c103 : compFn Go.Proofs.Tryd.prog 103 = some fn103 := by kernel_rfl

/-- math.IsNaN -/
def fn104 : AFn := ⟨6,
 (.seq
  (.region [⟨some 2, none, .ex (.mov) [.k (.bool false)]⟩])
  (.seq
   (.region [⟨some 3, none, .ex (.mov) [.s 0]⟩,
     ⟨some 4, none, .ex (.mov) [.s 0]⟩,
     ⟨some 5, none, .ex (.fbin .neq) [.s 3, .s 4]⟩,
     ⟨some 2, none, .ex (.mov) [.s 5]⟩])
   .ret)),
 [.t 2]⟩
theorem c104 : compFn Go.Proofs.Tryd.prog 104 = some fn104 := by kernel_rfl

/-- rubric/runes.Read -/
def fn106 : AFn := ⟨21,
 (.seq
  (.region [⟨some 2, none, .ex (.mov) [.k .nils]⟩,
    ⟨some 3, none, .ex (.mov) [.k (.int .i64 0)]⟩])
  (.seq
   (.seq
    (.region [⟨some 7, none, .ex (.mov) [.s 0]⟩,
      ⟨some 8, none, .callf 108 [.s 7]⟩,
      ⟨some 9, none, .ex (.bnot) [.s 8]⟩])
    (.cond (.s 9)
     (.seq
      (.region [⟨some 2, none, .ex (.mov) [.k .nils]⟩,
        ⟨some 3, none, .ex (.mov) [.k (.int .i64 3)]⟩])
      .ret)
     .skip))
   (.seq
    (.region [⟨some 4, none, .ex (.mov) [.k .nils]⟩])
    (.seq
     (.seq
      (.region [⟨some 10, none, .ex (.mov) [.s 0]⟩,
        ⟨some 11, none, .ex (.b2s) [.s 10]⟩,
        ⟨some 12, none, .ex (.rits) [.s 11]⟩])
      (.block 0
       (.loop
        (.seq
         (.region [⟨some 13, none, .ex (.rnext) [.s 12]⟩,
           ⟨some 14, none, .ex (.ext 0) [.s 13]⟩])
         (.seq
          (.cond (.s 14)
           .skip
           (.exit 0))
          (.block 1
           (.seq
            (.region [⟨some 15, none, .ex (.ext 2) [.s 13]⟩,
              ⟨some 6, none, .ex (.mov) [.s 15]⟩])
            (.region [⟨some 16, none, .ex (.mov) [.s 4]⟩,
              ⟨some 17, none, .ex (.mov) [.s 6]⟩,
              ⟨some 18, none, .ex (.bsl 1 1 [(.int .i32 0)] [(0, 1)]) [.s 17]⟩,
              ⟨some 19, none, .ex (.app 1 4) [.s 16, .s 18]⟩,
              ⟨some 4, none, .ex (.mov) [.s 19]⟩]))))))))
     (.seq
      (.region [⟨some 20, none, .ex (.mov) [.s 4]⟩,
        ⟨some 2, none, .ex (.mov) [.s 20]⟩,
        ⟨some 3, none, .ex (.mov) [.k (.int .i64 0)]⟩])
      .ret))))),
 [.t 2, .t 3]⟩
theorem c106 : compFn Go.Proofs.Tryd.prog 106 = some fn106 := by kernel_rfl

end Go.Proofs.YtbadbkdpnbacnaaDoor.Fw

/- What functions of the program answer: Takes. No condition. -/
namespace Go.Proofs.YtbadbkdpnbacnaaDoor.Fw
open Go
set_option linter.unusedSimpArgs false
set_option linter.unusedVariables false

noncomputable abbrev PP : Program := Go.Proofs.Tryd.prog
theorem SCalls.ofFn {f : FuncId} {af : AFn} (hf : compFn PP f = some af) {vs : List V} {H : Heap} {R : V → Heap → Prop} (hl : vs.length ≤ af.n)
    (h : WF H → wpC (SCalls PP) af.body (enterFr vs) H fun e fr H' => (e = .normal ∨ e = .ret) ∧ ∃ rs, resAll fr H' af.res = some rs ∧ R (resV rs) H') : SCalls PP f vs H R :=
  SCalls.wf (by
    unfold compFn at hf
    split at hf
    · rename_i fn hfn
      split at hf
      · rename_i c hb
        split at hf
        · split at hf
          · cases hf
          · rename_i hn; exact ⟨fn, hfn, by simp [hb], hn⟩
        · cases hf
      · cases hf
    · cases hf) fun hw => SCalls.intro (SC := SCalls PP) (fun _ _ _ _ h => h) SCalls.scWf SCalls.scMono hf hl (h hw)
theorem SCalls.go {f : FuncId} {af : AFn} (hf : compFn PP f = some af) {vs : List V} {H : Heap} {R : V → Heap → Prop} (hl : vs.length ≤ af.n)
    (h : WF H → wpC (SCalls PP) af.body (enterFr vs) H (kend af.res R)) : SCalls PP f vs H R := SCalls.ofFn hf hl h

/-! ### The program's data -/
structure ValA where
  kind : Int
  n : Int
  f : Int
  s : ByteArray
def ValA.cells (v : ValA) : List V := [.int .u8 v.kind, .int .i64 v.n, .int .u64 v.f, .str v.s]
structure AttrA where
  key : Int
  val : ValA
def AttrA.cells (a : AttrA) : List V := .int .i64 a.key :: a.val.cells
structure ChgA where
  key : Int
  gone : Bool
  val : ValA
def ChgA.cells (c : ChgA) : List V := .int .i64 c.key :: .bool c.gone :: c.val.cells
structure OpA where
  kind : Int
  n : Int
  runes : V
  set : V
  patch : V
  rs : List Int
  ats : List AttrA
  chs : List ChgA
def OpA.cells (o : OpA) : List V := [.int .u8 o.kind, .int .i64 o.n, o.runes, o.set, o.patch]
abbrev big : Nat := 1048576
structure OpA.In (H : Heap) (o : OpA) : Prop where
  runes : SL H o.runes 1 (o.rs.map fun r => [V.int .i32 r])
  set : SL H o.set 5 (o.ats.map AttrA.cells)
  patch : SL H o.patch 6 (o.chs.map ChgA.cells)
  rl : o.rs.length ≤ big
  al : o.ats.length ≤ big
  cl : o.chs.length ≤ big
  sa : ∀ a ∈ o.ats, a.val.s.size ≤ big
  sc : ∀ c ∈ o.chs, c.val.s.size ≤ big
  nlo : -9223372036854775808 ≤ o.n
  nhi : o.n ≤ 9223372036854775807
theorem OpA.In.ext {H H' : Heap} {o : OpA} (h : o.In H) (k : Ext H H') : o.In H' := { h with runes := h.runes.ext k, set := h.set.ext k, patch := h.patch.ext k }
structure OpsIn (H : Heap) (x : V) (os : List OpA) : Prop where
  sl : SL H x 5 (os.map OpA.cells)
  ins : ∀ o ∈ os, o.In H
  len : os.length ≤ big
theorem OpsIn.ext {H H' : Heap} {x : V} {os : List OpA} (h : OpsIn H x os) (k : Ext H H') : OpsIn H' x os := ⟨h.sl.ext k, fun o ho => (h.ins o ho).ext k, h.len⟩

/-! ### Takes, size, Makes, final -/
def takesF : Int → List OpA → Int
  | acc, [] => acc
  | acc, o :: os => takesF (if o.kind = 2 then acc else IntKind.i64.wrap (acc + o.n)) os

theorem takes_calls {x : V} {H : Heap} {os : List OpA} (hx : OpsIn H x os) : SCalls PP 11 [x] H fun r H' => H' = H ∧ r = .int .i64 (takesF 0 os) := by
  refine SCalls.keep (R := fun r => r = .int .i64 (takesF 0 os)) (SCalls.go c11 (by simp [fn11]) fun hw => ?_)
  have hb := hx.len
  simp only [fn11, enterFr, List.length, List.range, List.range.loop, List.zip, List.zipWith, stp, if_true, if_false, Int.reduceEq, Int.reduceLT, Int.reduceLE, Int.reduceGT, Int.reduceGE, reduceCtorEq, Nat.reduceEqDiff, List.getElem?_cons_zero, List.getElem?_cons_succ, Option.map_some, hx.sl.len]
  refine wp_range SCalls.scMono (by simp only [List.length_map]; unfold big at hb; omega) (fun acc => [(6, x), (3, .int .i64 acc)]) (fun k acc H' => takesF acc (os.drop k) = takesF 0 os ∧ Ext H H' ∧ WF H') 0 ⟨rfl, Ext.refl H, hw⟩
    (.cons rfl (.cons rfl (.cons rfl (.cons rfl .nil)))) (by decide) (fun s => ⟨rfl, rfl, rfl⟩) ?_ ?_
  · rintro k acc H' hk ⟨hacc, hext, hwf⟩
    rw [List.length_map] at hk
    simp only [s_seq, s_region]
    refine wp_elem hx.sl hext hwf (k := k) (e := os[k].cells) (by simp [hk]) rfl rfl rfl rfl (by decide) fun q id o H2 hx2 hw2 ha2 _ => ?_
    have l0 := ha2.ld (j := 0) (v := .int .u8 os[k].kind) rfl 1
    have l1 := ha2.ld (j := 1) (v := .int .i64 os[k].n) rfl 1
    rw [List.drop_eq_getElem_cons hk] at hacc
    simp only [takesF] at hacc
    by_cases h2 : os[k].kind = 2
    · rw [if_pos h2] at hacc
      simp only [stp, if_true, if_false, Int.reduceEq, Int.reduceLT, Int.reduceLE, Int.reduceGT, Int.reduceGE, reduceCtorEq, Nat.reduceEqDiff, List.getElem?_cons_zero, List.getElem?_cons_succ, Option.map_some, l0, h2, decide_true, Bool.not_true]
      exact ⟨acc, ⟨hacc, hx2, hw2⟩, .cons rfl (.cons rfl (.cons rfl (.cons rfl .nil)))⟩
    · rw [if_neg h2] at hacc
      simp only [stp, if_true, if_false, Int.reduceEq, Int.reduceLT, Int.reduceLE, Int.reduceGT, Int.reduceGE, reduceCtorEq, Nat.reduceEqDiff, List.getElem?_cons_zero, List.getElem?_cons_succ, Option.map_some, l0, l1, h2, decide_false, Bool.not_false]
      exact ⟨_, ⟨hacc, hx2, hw2⟩, .cons rfl (.cons rfl (.cons rfl (.cons rfl .nil)))⟩
  · rintro acc H' ⟨hacc, hext, hwf⟩
    simp only [stp, if_true, if_false, Int.reduceEq, Int.reduceLT, Int.reduceLE, Int.reduceGT, Int.reduceGE, reduceCtorEq, Nat.reduceEqDiff, List.getElem?_cons_zero, List.getElem?_cons_succ, Option.map_some]
    rw [List.length_map, List.drop_length] at hacc
    exact ⟨hext, by rw [← hacc]; rfl, rfl⟩

def sizeO (o : OpA) : Int := if o.kind = 2 then o.rs.length else o.n
theorem size_calls {H : Heap} {o : OpA} (ho : o.In H) (hon : o.cells.all V.one = true) : SCalls PP 30 [.agg o.cells] H fun r H' => H' = H ∧ r = .int .i64 (sizeO o) := by
  refine SCalls.keep (R := fun r => r = .int .i64 (sizeO o)) (SCalls.go c30 (by simp [fn30]) fun hw => ?_)
  obtain ⟨H2, hx2, hw2, ha2, hbx⟩ := x_boxed (Ext.refl H) hw (e := o.cells) hon
  have l0 := ha2.ld (j := 0) (v := .int .u8 o.kind) rfl 1
  have l1 := ha2.ld (j := 1) (v := .int .i64 o.n) rfl 1
  have l2 := ha2.ld (j := 2) (v := o.runes) rfl 1
  by_cases h2 : o.kind = 2
  · simp only [fn30, enterFr, List.length, List.range, List.range.loop, List.zip, List.zipWith, stp, if_true, if_false, Int.reduceEq, Int.reduceLT, Int.reduceLE, Int.reduceGT, Int.reduceGE, reduceCtorEq, Nat.reduceEqDiff, List.getElem?_cons_zero, List.getElem?_cons_succ, Option.map_some, hbx, l0, l2, h2, decide_true, ho.runes.len]
    exact ⟨hx2, by simp [sizeO, h2, resV], rfl⟩
  · simp only [fn30, enterFr, List.length, List.range, List.range.loop, List.zip, List.zipWith, stp, if_true, if_false, Int.reduceEq, Int.reduceLT, Int.reduceLE, Int.reduceGT, Int.reduceGE, reduceCtorEq, Nat.reduceEqDiff, List.getElem?_cons_zero, List.getElem?_cons_succ, Option.map_some, hbx, l0, l1, h2, decide_false]
    exact ⟨hx2, by simp [sizeO, h2, resV], rfl⟩

def makesF : Int → List OpA → Int
  | acc, [] => acc
  | acc, o :: os => makesF (if o.kind = 3 then acc else IntKind.i64.wrap (acc + sizeO o)) os
theorem makes_calls {x : V} {H : Heap} {os : List OpA} (hx : OpsIn H x os) : SCalls PP 12 [x] H fun r H' => H' = H ∧ r = .int .i64 (makesF 0 os) := by
  refine SCalls.keep (R := fun r => r = .int .i64 (makesF 0 os)) (SCalls.go c12 (by simp [fn12]) fun hw => ?_)
  have hb := hx.len
  simp only [fn12, enterFr, List.length, List.range, List.range.loop, List.zip, List.zipWith, stp, if_true, if_false, Int.reduceEq, Int.reduceLT, Int.reduceLE, Int.reduceGT, Int.reduceGE, reduceCtorEq, Nat.reduceEqDiff, List.getElem?_cons_zero, List.getElem?_cons_succ, Option.map_some, hx.sl.len]
  refine wp_range SCalls.scMono (by simp only [List.length_map]; unfold big at hb; omega) (fun acc => [(6, x), (3, .int .i64 acc)]) (fun k acc H' => makesF acc (os.drop k) = makesF 0 os ∧ Ext H H' ∧ WF H') 0 ⟨rfl, Ext.refl H, hw⟩
    (.cons rfl (.cons rfl (.cons rfl (.cons rfl .nil)))) (by decide) (fun s => ⟨rfl, rfl, rfl⟩) ?_ ?_
  · rintro k acc H' hk ⟨hacc, hext, hwf⟩
    rw [List.length_map] at hk
    simp only [s_seq, s_region]
    refine wp_elem hx.sl hext hwf (k := k) (e := os[k].cells) (by simp [hk]) rfl rfl rfl rfl (by decide) fun q id o H2 hx2 hw2 ha2 _ => ?_
    have l0 := ha2.ld (j := 0) (v := .int .u8 os[k].kind) rfl 1
    have la := ha2.lda (n := 5) rfl
    rw [List.drop_eq_getElem_cons hk] at hacc
    simp only [makesF] at hacc
    by_cases h2 : os[k].kind = 3
    · rw [if_pos h2] at hacc
      simp only [stp, if_true, if_false, Int.reduceEq, Int.reduceLT, Int.reduceLE, Int.reduceGT, Int.reduceGE, reduceCtorEq, Nat.reduceEqDiff, List.getElem?_cons_zero, List.getElem?_cons_succ, Option.map_some, l0, h2, decide_true, Bool.not_true]
      exact ⟨acc, ⟨hacc, hx2, hw2⟩, .cons rfl (.cons rfl (.cons rfl (.cons rfl .nil)))⟩
    · rw [if_neg h2] at hacc
      simp only [stp, if_true, if_false, Int.reduceEq, Int.reduceLT, Int.reduceLE, Int.reduceGT, Int.reduceGE, reduceCtorEq, Nat.reduceEqDiff, List.getElem?_cons_zero, List.getElem?_cons_succ, Option.map_some, l0, la, h2, decide_false, Bool.not_false]
      refine SCalls.mono (size_calls ((hx.ins _ (List.getElem_mem hk)).ext hx2) (hx.sl.1 _ (List.mem_map_of_mem (List.getElem_mem hk))).2) ?_
      rintro r H3 ⟨rfl, rfl⟩
      simp only [stp, if_true, if_false, Int.reduceEq, Int.reduceLT, Int.reduceLE, Int.reduceGT, Int.reduceGE, reduceCtorEq, Nat.reduceEqDiff, List.getElem?_cons_zero, List.getElem?_cons_succ, Option.map_some]
      exact ⟨_, ⟨hacc, hx2, hw2⟩, .cons rfl (.cons rfl (.cons rfl (.cons rfl .nil)))⟩
  · rintro acc H' ⟨hacc, hext, hwf⟩
    simp only [stp, if_true, if_false, Int.reduceEq, Int.reduceLT, Int.reduceLE, Int.reduceGT, Int.reduceGE, reduceCtorEq, Nat.reduceEqDiff, List.getElem?_cons_zero, List.getElem?_cons_succ, Option.map_some]
    rw [List.length_map, List.drop_length] at hacc
    exact ⟨hext, by rw [← hacc]; rfl, rfl⟩

def finalF : Int → List OpA → Int → Bool
  | _, [], _ => true
  | acc, o :: os, n =>
    if o.kind = 2 then if acc = n then false else finalF acc os n
    else if o.kind = 3 then if IntKind.i64.wrap (acc + o.n) = n then false else finalF (IntKind.i64.wrap (acc + o.n)) os n
    else finalF (IntKind.i64.wrap (acc + o.n)) os n
theorem final_calls {x : V} {H : Heap} {os : List OpA} (hx : OpsIn H x os) (n : Int) : SCalls PP 29 [x, .int .i64 n] H fun r H' => H' = H ∧ r = .bool (finalF 0 os n) := by
  refine SCalls.keep (R := fun r => r = .bool (finalF 0 os n)) (SCalls.go c29 (by simp [fn29]) fun hw => ?_)
  have hb := hx.len
  simp only [fn29, enterFr, List.length, List.range, List.range.loop, List.zip, List.zipWith, stp, if_true, if_false, Int.reduceEq, Int.reduceLT, Int.reduceLE, Int.reduceGT, Int.reduceGE, reduceCtorEq, Nat.reduceEqDiff, List.getElem?_cons_zero, List.getElem?_cons_succ, Option.map_some, hx.sl.len]
  refine wp_range SCalls.scMono (by simp only [List.length_map]; unfold big at hb; omega) (fun acc => [(8, x), (5, .int .i64 acc), (1, .int .i64 n)]) (fun k acc H' => finalF acc (os.drop k) n = finalF 0 os n ∧ Ext H H' ∧ WF H') 0 ⟨rfl, Ext.refl H, hw⟩
    (.cons rfl (.cons rfl (.cons rfl (.cons rfl (.cons rfl .nil))))) (by decide) (fun s => ⟨rfl, rfl, rfl⟩) ?_ ?_
  · rintro k acc H' hk ⟨hacc, hext, hwf⟩
    rw [List.length_map] at hk
    simp only [s_seq, s_region]
    refine wp_elem hx.sl hext hwf (k := k) (e := os[k].cells) (by simp [hk]) rfl rfl rfl rfl (by decide) fun q id o H2 hx2 hw2 ha2 _ => ?_
    have l0 := ha2.ld (j := 0) (v := .int .u8 os[k].kind) rfl 1
    have l1 := ha2.ld (j := 1) (v := .int .i64 os[k].n) rfl 1
    rw [List.drop_eq_getElem_cons hk] at hacc
    simp only [finalF] at hacc
    by_cases h2 : os[k].kind = 2
    · rw [if_pos h2] at hacc
      by_cases ha : acc = n
      · rw [if_pos ha] at hacc
        simp only [stp, if_true, if_false, Int.reduceEq, Int.reduceLT, Int.reduceLE, Int.reduceGT, Int.reduceGE, reduceCtorEq, Nat.reduceEqDiff, List.getElem?_cons_zero, List.getElem?_cons_succ, Option.map_some, l0, h2, ha, decide_true]
        exact ⟨hx2, congrArg V.bool hacc, rfl⟩
      · rw [if_neg ha] at hacc
        simp only [stp, if_true, if_false, Int.reduceEq, Int.reduceLT, Int.reduceLE, Int.reduceGT, Int.reduceGE, reduceCtorEq, Nat.reduceEqDiff, List.getElem?_cons_zero, List.getElem?_cons_succ, Option.map_some, l0, h2, ha, decide_true, decide_false]
        exact ⟨acc, ⟨hacc, hx2, hw2⟩, .cons rfl (.cons rfl (.cons rfl (.cons rfl (.cons rfl .nil))))⟩
    · rw [if_neg h2] at hacc
      by_cases h3 : os[k].kind = 3
      · rw [if_pos h3] at hacc
        by_cases ha : IntKind.i64.wrap (acc + os[k].n) = n
        · rw [if_pos ha] at hacc
          simp only [stp, if_true, if_false, Int.reduceEq, Int.reduceLT, Int.reduceLE, Int.reduceGT, Int.reduceGE, reduceCtorEq, Nat.reduceEqDiff, List.getElem?_cons_zero, List.getElem?_cons_succ, Option.map_some, l0, l1, h2, h3, ha, decide_true, decide_false]
          exact ⟨hx2, congrArg V.bool hacc, rfl⟩
        · rw [if_neg ha] at hacc
          simp only [stp, if_true, if_false, Int.reduceEq, Int.reduceLT, Int.reduceLE, Int.reduceGT, Int.reduceGE, reduceCtorEq, Nat.reduceEqDiff, List.getElem?_cons_zero, List.getElem?_cons_succ, Option.map_some, l0, l1, h2, h3, ha, decide_true, decide_false]
          exact ⟨_, ⟨hacc, hx2, hw2⟩, .cons rfl (.cons rfl (.cons rfl (.cons rfl (.cons rfl .nil))))⟩
      · rw [if_neg h3] at hacc
        simp only [stp, if_true, if_false, Int.reduceEq, Int.reduceLT, Int.reduceLE, Int.reduceGT, Int.reduceGE, reduceCtorEq, Nat.reduceEqDiff, List.getElem?_cons_zero, List.getElem?_cons_succ, Option.map_some, l0, l1, h2, h3, decide_false]
        exact ⟨_, ⟨hacc, hx2, hw2⟩, .cons rfl (.cons rfl (.cons rfl (.cons rfl (.cons rfl .nil))))⟩
  · rintro acc H' ⟨hacc, hext, hwf⟩
    simp only [stp, if_true, if_false, Int.reduceEq, Int.reduceLT, Int.reduceLE, Int.reduceGT, Int.reduceGE, reduceCtorEq, Nat.reduceEqDiff, List.getElem?_cons_zero, List.getElem?_cons_succ, Option.map_some]
    rw [List.length_map, List.drop_length] at hacc
    exact ⟨hext, by rw [← hacc]; rfl, rfl⟩
end Go.Proofs.YtbadbkdpnbacnaaDoor.Fw

