/- Part 2 of the proof. HistoryEmpties: what was undone can be done again till something is pushed, and not behind that; undos and redos themselves change nothing of that; on the one condition that the arguments hold together at most 2^20 data, as the statement's own bound says. -/
import Derived.Test.YtkmaikggdbielaaGreatDoorEmptiesM1

/- The abstract code of functions of the program, and that it is theirs. No condition. Printed by a program (wip/Print.lean, wip/mkfns.py). -/
namespace Go.Proofs.YtkmaikggdbielaaGreatDoor.Fw
open Go

/-- (*rubric/history.History).with -/
def fn38 : AFn := ⟨58,
 (.seq
  (.region [⟨some 3, none, .ex (.box) [.s 1]⟩,
    ⟨some 4, none, .ex (.alloc [.nils, .nils]) []⟩,
    ⟨some 5, none, .ex (.mov) [.k (.int .i64 0)]⟩])
  (.seq
   (.seq
    (.region [⟨some 9, none, .ex (.mov) [.s 0]⟩,
      ⟨some 10, none, .ex (.nilck) [.s 9]⟩,
      ⟨some 11, none, .ex (.fa 6) [.s 10]⟩,
      ⟨some 12, none, .ex (.ld 1) [.s 11]⟩,
      ⟨some 13, none, .ex (.len) [.s 12]⟩,
      ⟨some 14, none, .ex (.ibin .eql) [.s 13, .k (.int .i64 0)]⟩])
    (.cond (.s 14)
     (.seq
      (.region [⟨some 15, none, .ex (.lda 2) [.s 3]⟩,
        ⟨none, none, .ex (.st 2) [.s 4, .s 15]⟩,
        ⟨some 5, none, .ex (.mov) [.k (.int .i64 0)]⟩])
      .ret)
     .skip))
   (.seq
    (.draw (.op ⟨some 17, none, .ex (.mov) [.s 0]⟩ (.op ⟨some 18, none, .ex (.nilck) [.s 17]⟩ (.op ⟨some 19, none, .ex (.fa 0) [.s 18]⟩ (.op ⟨some 20, none, .ex (.ld 1) [.s 19]⟩ (.op ⟨some 21, none, .ex (.mov) [.s 0]⟩ (.op ⟨some 22, none, .ex (.nilck) [.s 21]⟩ (.op ⟨some 23, none, .ex (.fa 6) [.s 22]⟩ (.op ⟨some 24, none, .ex (.ld 1) [.s 23]⟩ (.op ⟨some 25, none, .ex (.ia 2) [.s 24, .k (.int .i64 0)]⟩ (.op ⟨some 26, none, .ex (.fa 0) [.s 25]⟩ (.op ⟨some 27, none, .ex (.ld 1) [.s 26]⟩ (.op ⟨some 28, none, .ex (.fa 0) [.s 3]⟩ (.op ⟨some 29, none, .ex (.ld 1) [.s 28]⟩ (.op ⟨some 30, none, .callf 54 [.s 20, .s 27, .s 29]⟩ (.op ⟨some 16, none, .ex (.mov) [.s 30]⟩ (.op ⟨some 31, none, .ex (.ext 0) [.s 16]⟩ (.op ⟨some 32, none, .ex (.ext 1) [.s 16]⟩ (.op ⟨some 6, none, .ex (.mov) [.s 31]⟩ (.op ⟨some 7, none, .ex (.mov) [.s 32]⟩ .done))))))))))))))))))))
    (.seq
     (.seq
      (.region [⟨some 33, none, .ex (.mov) [.s 7]⟩,
        ⟨some 34, none, .ex (.ibin .neq) [.s 33, .k (.int .i64 0)]⟩])
      (.cond (.s 34)
       (.seq
        (.region [⟨some 35, none, .ex (.build [.nils, .nils] []) []⟩,
          ⟨some 36, none, .ex (.mov) [.s 7]⟩,
          ⟨none, none, .ex (.st 2) [.s 4, .s 35]⟩,
          ⟨some 5, none, .ex (.mov) [.s 36]⟩])
        .ret)
       .skip))
     (.seq
      (.draw (.op ⟨some 38, none, .ex (.mov) [.s 0]⟩ (.op ⟨some 39, none, .ex (.nilck) [.s 38]⟩ (.op ⟨some 40, none, .ex (.fa 0) [.s 39]⟩ (.op ⟨some 41, none, .ex (.ld 1) [.s 40]⟩ (.op ⟨some 42, none, .ex (.fa 1) [.s 3]⟩ (.op ⟨some 43, none, .ex (.ld 1) [.s 42]⟩ (.op ⟨some 44, none, .ex (.mov) [.s 0]⟩ (.op ⟨some 45, none, .ex (.nilck) [.s 44]⟩ (.op ⟨some 46, none, .ex (.fa 6) [.s 45]⟩ (.op ⟨some 47, none, .ex (.ld 1) [.s 46]⟩ (.op ⟨some 48, none, .ex (.ia 2) [.s 47, .k (.int .i64 0)]⟩ (.op ⟨some 49, none, .ex (.fa 1) [.s 48]⟩ (.op ⟨some 50, none, .ex (.ld 1) [.s 49]⟩ (.op ⟨some 51, none, .callf 54 [.s 41, .s 43, .s 50]⟩ (.op ⟨some 37, none, .ex (.mov) [.s 51]⟩ (.op ⟨some 52, none, .ex (.ext 0) [.s 37]⟩ (.op ⟨some 53, none, .ex (.ext 1) [.s 37]⟩ (.op ⟨some 8, none, .ex (.mov) [.s 52]⟩ (.op ⟨some 7, none, .ex (.mov) [.s 53]⟩ .done))))))))))))))))))))
      (.seq
       (.region [⟨some 54, none, .ex (.mov) [.s 6]⟩,
         ⟨some 55, none, .ex (.mov) [.s 8]⟩,
         ⟨some 56, none, .ex (.build [.nils, .nils] [(0, 1), (1, 1)]) [.s 54, .s 55]⟩,
         ⟨some 57, none, .ex (.mov) [.s 7]⟩,
         ⟨none, none, .ex (.st 2) [.s 4, .s 56]⟩,
         ⟨some 5, none, .ex (.mov) [.s 57]⟩])
       .ret)))))),
 [.ca 4 2, .t 5]⟩
theorem c38 : compFn Go.Proofs.Tryz.prog 38 = some fn38 := by kernel_rfl

/-- rubric/compose.Compose -/
def fn54 : AFn := ⟨79,
 (.seq
  (.region [⟨some 6, none, .ex (.mov) [.k .nils]⟩,
    ⟨some 7, none, .ex (.mov) [.k (.int .i64 0)]⟩])
  (.scope
   (.seq
    (.seq
     (.region [⟨some 14, none, .ex (.mov) [.s 0]⟩,
       ⟨some 15, none, .ex (.mov) [.s 1]⟩,
       ⟨some 16, none, .ex (.mov) [.s 2]⟩,
       ⟨some 17, none, .callf 74 [.s 14, .s 15, .s 16]⟩,
       ⟨some 8, none, .ex (.mov) [.s 17]⟩])
     (.seq
      (.region [⟨some 18, none, .ex (.mov) [.s 8]⟩,
        ⟨some 19, none, .ex (.ibin .neq) [.s 18, .k (.int .i64 0)]⟩])
      (.cond (.s 19)
       (.seq
        (.region [⟨some 20, none, .ex (.mov) [.s 8]⟩,
          ⟨some 6, none, .ex (.mov) [.k .nils]⟩,
          ⟨some 7, none, .ex (.mov) [.s 20]⟩])
        .ret)
       .skip)))
    (.seq
     (.region [⟨some 21, none, .callf 75 []⟩,
       ⟨some 9, none, .ex (.mov) [.s 21]⟩])
     (.seq
      (.region [⟨some 22, none, .ex (.mov) [.s 1]⟩,
        ⟨some 23, none, .ex (.build [.nils, (.int .i64 0)] [(0, 1)]) [.s 22]⟩,
        ⟨some 24, none, .ex (.box) [.s 23]⟩,
        ⟨some 25, none, .ex (.mov) [.s 2]⟩,
        ⟨some 26, none, .ex (.build [.nils, (.int .i64 0)] [(0, 1)]) [.s 25]⟩,
        ⟨some 27, none, .ex (.box) [.s 26]⟩,
        ⟨some 10, none, .ex (.mov) [.s 24]⟩,
        ⟨some 11, none, .ex (.mov) [.s 27]⟩])
      (.seq
       .skip
       (.seq
        (.block 0
         (.loop
          (.seq
           (.seq
            (.region [⟨some 28, none, .ex (.mov) [.s 11]⟩,
              ⟨some 29, none, .callf 76 [.s 28]⟩,
              ⟨some 30, none, .ex (.bnot) [.s 29]⟩])
            (.cond (.s 30)
             .skip
             (.exit 0)))
           (.block 1
            (.seq
             (.block 2
              (.seq
               (.region [⟨some 32, none, .ex (.mov) [.s 11]⟩,
                 ⟨some 33, none, .callf 77 [.s 32]⟩,
                 ⟨some 34, none, .ex (.ibin .eql) [.s 33, .k (.int .u8 2)]⟩,
                 ⟨some 31, none, .ex (.mov) [.s 34]⟩])
               (.cond (.s 31)
                (.seq
                 (.region [⟨some 35, none, .ex (.mov) [.s 9]⟩,
                   ⟨some 36, none, .ex (.mov) [.s 11]⟩,
                   ⟨some 37, none, .callf 79 [.s 36, .k (.int .i64 536870912)]⟩,
                   ⟨some 38, none, .callf 78 [.s 35, .s 37]⟩])
                 (.exit 1))
                (.seq
                 (.region [⟨some 40, none, .ex (.mov) [.s 10]⟩,
                   ⟨some 41, none, .callf 77 [.s 40]⟩,
                   ⟨some 42, none, .ex (.ibin .eql) [.s 41, .k (.int .u8 3)]⟩,
                   ⟨some 39, none, .ex (.mov) [.s 42]⟩])
                 (.cond (.s 39)
                  (.seq
                   (.region [⟨some 43, none, .ex (.mov) [.s 9]⟩,
                     ⟨some 44, none, .ex (.mov) [.s 10]⟩,
                     ⟨some 45, none, .callf 79 [.s 44, .k (.int .i64 536870912)]⟩,
                     ⟨some 46, none, .callf 78 [.s 43, .s 45]⟩])
                   (.exit 1))
                  .skip)))))
             (.seq
              (.region [⟨some 47, none, .ex (.mov) [.s 10]⟩,
                ⟨some 48, none, .callf 80 [.s 47]⟩,
                ⟨some 49, none, .ex (.mov) [.s 11]⟩,
                ⟨some 50, none, .callf 80 [.s 49]⟩,
                ⟨some 51, none, .ex (.mn) [.s 48, .s 50]⟩,
                ⟨some 12, none, .ex (.mov) [.s 51]⟩])
              (.region [⟨some 52, none, .ex (.mov) [.s 0]⟩,
                ⟨some 53, none, .ex (.mov) [.s 9]⟩,
                ⟨some 54, none, .ex (.mov) [.s 10]⟩,
                ⟨some 55, none, .ex (.mov) [.s 12]⟩,
                ⟨some 56, none, .callf 79 [.s 54, .s 55]⟩,
                ⟨some 57, none, .ex (.mov) [.s 11]⟩,
                ⟨some 58, none, .ex (.mov) [.s 12]⟩,
                ⟨some 59, none, .callf 79 [.s 57, .s 58]⟩,
                ⟨some 60, none, .callf 81 [.s 52, .s 53, .s 56, .s 59]⟩])))))))
        (.seq
         (.block 3
          (.loop
           (.seq
            (.seq
             (.region [⟨some 61, none, .ex (.mov) [.s 10]⟩,
               ⟨some 62, none, .callf 76 [.s 61]⟩,
               ⟨some 63, none, .ex (.bnot) [.s 62]⟩])
             (.cond (.s 63)
              .skip
              (.exit 3)))
            (.block 4
             (.region [⟨some 64, none, .ex (.mov) [.s 9]⟩,
               ⟨some 65, none, .ex (.mov) [.s 10]⟩,
               ⟨some 66, none, .callf 79 [.s 65, .k (.int .i64 536870912)]⟩,
               ⟨some 67, none, .callf 78 [.s 64, .s 66]⟩])))))
         (.seq
          (.region [⟨some 68, none, .ex (.mov) [.s 9]⟩,
            ⟨some 69, none, .callf 82 [.s 68]⟩,
            ⟨some 13, none, .ex (.mov) [.s 69]⟩])
          (.seq
           (.seq
            (.region [⟨some 70, none, .ex (.mov) [.s 13]⟩,
              ⟨some 71, none, .callf 83 [.s 70]⟩,
              ⟨some 72, none, .ex (.ibin .gtr) [.s 71, .k (.int .i64 536870912)]⟩,
              ⟨some 73, none, .ex (.mov) [.s 72]⟩,
              ⟨some 74, some (73, false), .ex (.mov) [.s 13]⟩,
              ⟨some 75, some (73, false), .callf 84 [.s 74]⟩,
              ⟨some 76, some (73, false), .ex (.ibin .gtr) [.s 75, .k (.int .i64 536870912)]⟩,
              ⟨some 77, none, .ex (.pick) [.s 73, .k (.bool true), .s 76]⟩])
            (.cond (.s 77)
             (.seq
              (.region [⟨some 6, none, .ex (.mov) [.k .nils]⟩,
                ⟨some 7, none, .ex (.mov) [.k (.int .i64 3)]⟩])
              .ret)
             .skip))
           (.seq
            (.region [⟨some 78, none, .ex (.mov) [.s 13]⟩,
              ⟨some 6, none, .ex (.mov) [.s 78]⟩,
              ⟨some 7, none, .ex (.mov) [.k (.int .i64 0)]⟩])
            .ret))))))))))),
 [.t 6, .t 7]⟩
theorem c54 : compFn Go.Proofs.Tryz.prog 54 = some fn54 := by kernel_rfl

/-- rubric/compose.may -/
def fn74 : AFn := ⟨23,
 (.seq
  (.region [⟨some 6, none, .ex (.mov) [.k (.int .i64 0)]⟩])
  (.seq
   (.region [⟨some 9, none, .ex (.mov) [.s 0]⟩,
     ⟨some 10, none, .ex (.mov) [.s 1]⟩,
     ⟨some 11, none, .callf 100 [.s 9, .s 10]⟩,
     ⟨some 12, none, .ex (.mov) [.s 0]⟩,
     ⟨some 13, none, .ex (.mov) [.s 2]⟩,
     ⟨some 14, none, .callf 100 [.s 12, .s 13]⟩,
     ⟨some 7, none, .ex (.mov) [.s 11]⟩,
     ⟨some 8, none, .ex (.mov) [.s 14]⟩])
   (.seq
    (.seq
     (.region [⟨some 15, none, .ex (.mov) [.s 7]⟩,
       ⟨some 16, none, .ex (.ibin .eql) [.s 15, .k (.int .i64 0)]⟩,
       ⟨some 17, none, .ex (.mov) [.s 16]⟩,
       ⟨some 18, some (17, false), .ex (.mov) [.s 8]⟩,
       ⟨some 19, some (17, false), .ex (.ibin .eql) [.s 18, .k (.int .i64 3)]⟩,
       ⟨some 20, none, .ex (.pick) [.s 17, .k (.bool true), .s 19]⟩])
     (.cond (.s 20)
      (.seq
       (.region [⟨some 21, none, .ex (.mov) [.s 8]⟩,
         ⟨some 6, none, .ex (.mov) [.s 21]⟩])
       .ret)
      .skip))
    (.seq
     (.region [⟨some 22, none, .ex (.mov) [.s 7]⟩,
       ⟨some 6, none, .ex (.mov) [.s 22]⟩])
     .ret)))),
 [.t 6]⟩
theorem c74 : compFn Go.Proofs.Tryz.prog 74 = some fn74 := by kernel_rfl

/-- rubric/normal.New -/
def fn75 : AFn := ⟨3,
 (.seq
  (.region [⟨some 0, none, .ex (.mov) [.k .nilp]⟩])
  (.seq
   (.region [⟨some 1, none, .ex (.build [.nils, .nils, (.int .i64 0)] []) []⟩,
     ⟨some 2, none, .ex (.box) [.s 1]⟩,
     ⟨some 0, none, .ex (.mov) [.s 2]⟩])
   .ret)),
 [.t 0]⟩
theorem c75 : compFn Go.Proofs.Tryz.prog 75 = some fn75 := by kernel_rfl

/-- (*rubric/compose.reader).over -/
def fn76 : AFn := ⟨9,
 (.seq
  (.region [⟨some 2, none, .ex (.mov) [.k (.bool false)]⟩])
  (.seq
   (.region [⟨some 3, none, .ex (.mov) [.s 0]⟩,
     ⟨some 4, none, .ex (.nilck) [.s 3]⟩,
     ⟨some 5, none, .ex (.fa 0) [.s 4]⟩,
     ⟨some 6, none, .ex (.ld 1) [.s 5]⟩,
     ⟨some 7, none, .ex (.len) [.s 6]⟩,
     ⟨some 8, none, .ex (.ibin .eql) [.s 7, .k (.int .i64 0)]⟩,
     ⟨some 2, none, .ex (.mov) [.s 8]⟩])
   .ret)),
 [.t 2]⟩
theorem c76 : compFn Go.Proofs.Tryz.prog 76 = some fn76 := by kernel_rfl

/-- (*rubric/compose.reader).kind -/
def fn77 : AFn := ⟨12,
 (.seq
  (.region [⟨some 2, none, .ex (.mov) [.k (.int .u8 0)]⟩])
  (.seq
   (.seq
    (.region [⟨some 3, none, .ex (.mov) [.s 0]⟩,
      ⟨some 4, none, .callf 76 [.s 3]⟩])
    (.cond (.s 4)
     (.seq
      (.region [⟨some 2, none, .ex (.mov) [.k (.int .u8 1)]⟩])
      .ret)
     .skip))
   (.seq
    (.region [⟨some 5, none, .ex (.mov) [.s 0]⟩,
      ⟨some 6, none, .ex (.nilck) [.s 5]⟩,
      ⟨some 7, none, .ex (.fa 0) [.s 6]⟩,
      ⟨some 8, none, .ex (.ld 1) [.s 7]⟩,
      ⟨some 9, none, .ex (.ia 5) [.s 8, .k (.int .i64 0)]⟩,
      ⟨some 10, none, .ex (.fa 0) [.s 9]⟩,
      ⟨some 11, none, .ex (.ld 1) [.s 10]⟩,
      ⟨some 2, none, .ex (.mov) [.s 11]⟩])
    .ret))),
 [.t 2]⟩
theorem c77 : compFn Go.Proofs.Tryz.prog 77 = some fn77 := by kernel_rfl

/-- rubric/compose.tell -/
def fn78 : AFn := ⟨26,
 (.seq
  (.region [⟨some 3, none, .ex (.box) [.s 1]⟩])
  (.seq
   (.region [⟨some 4, none, .ex (.fa 0) [.s 3]⟩,
     ⟨some 5, none, .ex (.ld 1) [.s 4]⟩])
   (.block 0
    (.seq
     (.region [⟨some 11, none, .ex (.ibin .eql) [.s 5, .k (.int .u8 1)]⟩,
       ⟨some 10, none, .ex (.mov) [.s 11]⟩])
     (.cond (.s 10)
      (.region [⟨some 12, none, .ex (.mov) [.s 0]⟩,
        ⟨some 13, none, .ex (.fa 1) [.s 3]⟩,
        ⟨some 14, none, .ex (.ld 1) [.s 13]⟩,
        ⟨some 15, none, .ex (.fa 4) [.s 3]⟩,
        ⟨some 16, none, .ex (.ld 1) [.s 15]⟩,
        ⟨some 17, none, .callf 101 [.s 12, .s 14, .s 16]⟩])
      (.seq
       (.region [⟨some 19, none, .ex (.ibin .eql) [.s 5, .k (.int .u8 2)]⟩,
         ⟨some 18, none, .ex (.mov) [.s 19]⟩])
       (.cond (.s 18)
        (.region [⟨some 20, none, .ex (.mov) [.s 0]⟩,
          ⟨some 21, none, .ex (.fa 2) [.s 3]⟩,
          ⟨some 22, none, .ex (.ld 1) [.s 21]⟩,
          ⟨some 23, none, .ex (.fa 3) [.s 3]⟩,
          ⟨some 24, none, .ex (.ld 1) [.s 23]⟩,
          ⟨some 25, none, .callf 102 [.s 20, .s 22, .s 24]⟩])
        (.region [⟨some 6, none, .ex (.mov) [.s 0]⟩,
          ⟨some 7, none, .ex (.fa 1) [.s 3]⟩,
          ⟨some 8, none, .ex (.ld 1) [.s 7]⟩,
          ⟨some 9, none, .callf 103 [.s 6, .s 8]⟩])))))))),
 []⟩
theorem c78 : compFn Go.Proofs.Tryz.prog 78 = some fn78 := by kernel_rfl

/-- (*rubric/compose.reader).take -/
def fn79 : AFn := ⟨62,
 (.seq
  (.region [⟨some 4, none, .ex (.alloc [(.int .u8 0), (.int .i64 0), .nils, .nils, .nils]) []⟩])
  (.seq
   (.seq
    (.region [⟨some 6, none, .ex (.mov) [.s 0]⟩,
      ⟨some 7, none, .callf 76 [.s 6]⟩])
    (.cond (.s 7)
     (.seq
      (.region [⟨some 8, none, .ex (.mov) [.s 1]⟩,
        ⟨some 9, none, .ex (.build [(.int .u8 0), (.int .i64 0), .nils, .nils, .nils] [(0, 1), (1, 1)]) [.k (.int .u8 1), .s 8]⟩,
        ⟨none, none, .ex (.st 5) [.s 4, .s 9]⟩])
      .ret)
     .skip))
   (.seq
    (.region [⟨some 10, none, .ex (.mov) [.s 0]⟩,
      ⟨some 11, none, .ex (.nilck) [.s 10]⟩,
      ⟨some 12, none, .ex (.fa 0) [.s 11]⟩,
      ⟨some 13, none, .ex (.ld 1) [.s 12]⟩,
      ⟨some 14, none, .ex (.ia 5) [.s 13, .k (.int .i64 0)]⟩,
      ⟨some 15, none, .ex (.lda 5) [.s 14]⟩,
      ⟨some 5, none, .ex (.alloc [(.int .u8 0), (.int .i64 0), .nils, .nils, .nils]) []⟩,
      ⟨none, none, .ex (.st 5) [.s 5, .s 15]⟩])
    (.seq
     (.region [⟨some 16, none, .ex (.mov) [.s 1]⟩,
       ⟨some 17, none, .ex (.mov) [.s 0]⟩,
       ⟨some 18, none, .callf 104 [.s 17]⟩,
       ⟨some 19, none, .ex (.mn) [.s 16, .s 18]⟩,
       ⟨some 1, none, .ex (.mov) [.s 19]⟩])
     (.seq
      (.seq
       (.region [⟨some 20, none, .ex (.fa 0) [.s 5]⟩,
         ⟨some 21, none, .ex (.ld 1) [.s 20]⟩,
         ⟨some 22, none, .ex (.ibin .eql) [.s 21, .k (.int .u8 2)]⟩])
       (.cond (.s 22)
        (.draw (.op ⟨some 23, none, .ex (.fa 2) [.s 5]⟩ (.op ⟨some 24, none, .ex (.ld 1) [.s 23]⟩ (.op ⟨some 25, none, .ex (.mov) [.s 0]⟩ (.op ⟨some 26, none, .ex (.nilck) [.s 25]⟩ (.op ⟨some 27, none, .ex (.fa 1) [.s 26]⟩ (.op ⟨some 28, none, .ex (.ld 1) [.s 27]⟩ (.op ⟨some 29, none, .ex (.mov) [.s 0]⟩ (.op ⟨some 30, none, .ex (.nilck) [.s 29]⟩ (.op ⟨some 31, none, .ex (.fa 1) [.s 30]⟩ (.op ⟨some 32, none, .ex (.ld 1) [.s 31]⟩ (.op ⟨some 33, none, .ex (.mov) [.s 1]⟩ (.op ⟨some 34, none, .ex (.ibin .add) [.s 32, .s 33]⟩ (.op ⟨some 35, none, .ex (.slc 1 true true false) [.s 24, .s 28, .s 34]⟩ (.op ⟨some 36, none, .ex (.fa 2) [.s 5]⟩ (.op ⟨none, none, .ex (.st 1) [.s 36, .s 35]⟩ .done))))))))))))))))
        (.region [⟨some 37, none, .ex (.mov) [.s 1]⟩,
          ⟨some 38, none, .ex (.fa 1) [.s 5]⟩,
          ⟨none, none, .ex (.st 1) [.s 38, .s 37]⟩])))
      (.seq
       (.region [⟨some 39, none, .ex (.mov) [.s 0]⟩,
         ⟨some 40, none, .ex (.nilck) [.s 39]⟩,
         ⟨some 41, none, .ex (.fa 1) [.s 40]⟩,
         ⟨some 42, none, .ex (.ld 1) [.s 41]⟩,
         ⟨some 43, none, .ex (.mov) [.s 1]⟩,
         ⟨some 44, none, .ex (.ibin .add) [.s 42, .s 43]⟩,
         ⟨some 45, none, .ex (.nilck) [.s 39]⟩,
         ⟨some 46, none, .ex (.fa 1) [.s 45]⟩,
         ⟨none, none, .ex (.st 1) [.s 46, .s 44]⟩])
       (.seq
        (.seq
         (.region [⟨some 47, none, .ex (.mov) [.s 0]⟩,
           ⟨some 48, none, .callf 104 [.s 47]⟩,
           ⟨some 49, none, .ex (.ibin .eql) [.s 48, .k (.int .i64 0)]⟩])
         (.cond (.s 49)
          (.region [⟨some 50, none, .ex (.mov) [.s 0]⟩,
            ⟨some 51, none, .ex (.mov) [.s 0]⟩,
            ⟨some 52, none, .ex (.mov) [.s 0]⟩,
            ⟨some 53, none, .ex (.nilck) [.s 52]⟩,
            ⟨some 54, none, .ex (.fa 0) [.s 53]⟩,
            ⟨some 55, none, .ex (.ld 1) [.s 54]⟩,
            ⟨some 56, none, .ex (.slc 5 true false false) [.s 55, .k (.int .i64 1)]⟩,
            ⟨some 57, none, .ex (.nilck) [.s 50]⟩,
            ⟨some 58, none, .ex (.fa 0) [.s 57]⟩,
            ⟨none, none, .ex (.st 1) [.s 58, .s 56]⟩,
            ⟨some 59, none, .ex (.nilck) [.s 51]⟩,
            ⟨some 60, none, .ex (.fa 1) [.s 59]⟩,
            ⟨none, none, .ex (.st 1) [.s 60, .k (.int .i64 0)]⟩])
          .skip))
        (.seq
         (.region [⟨some 61, none, .ex (.lda 5) [.s 5]⟩,
           ⟨none, none, .ex (.st 5) [.s 4, .s 61]⟩])
         .ret)))))))),
 [.ca 4 5]⟩
theorem c79 : compFn Go.Proofs.Tryz.prog 79 = some fn79 := by kernel_rfl

/-- (*rubric/compose.reader).long -/
def fn80 : AFn := ⟨7,
 (.seq
  (.region [⟨some 2, none, .ex (.mov) [.k (.int .i64 0)]⟩])
  (.seq
   (.seq
    (.region [⟨some 3, none, .ex (.mov) [.s 0]⟩,
      ⟨some 4, none, .callf 76 [.s 3]⟩])
    (.cond (.s 4)
     (.seq
      (.region [⟨some 2, none, .ex (.mov) [.k (.int .i64 536870912)]⟩])
      .ret)
     .skip))
   (.seq
    (.region [⟨some 5, none, .ex (.mov) [.s 0]⟩,
      ⟨some 6, none, .callf 104 [.s 5]⟩,
      ⟨some 2, none, .ex (.mov) [.s 6]⟩])
    .ret))),
 [.t 2]⟩
theorem c80 : compFn Go.Proofs.Tryz.prog 80 = some fn80 := by kernel_rfl

/-- rubric/compose.both -/
def fn81 : AFn := ⟨64,
 (.seq
  (.region [⟨some 6, none, .ex (.box) [.s 2]⟩,
    ⟨some 7, none, .ex (.box) [.s 3]⟩])
  (.block 0
   (.seq
    (.region [⟨some 12, none, .ex (.fa 0) [.s 6]⟩,
      ⟨some 13, none, .ex (.ld 1) [.s 12]⟩,
      ⟨some 14, none, .ex (.ibin .eql) [.s 13, .k (.int .u8 1)]⟩,
      ⟨some 15, none, .ex (.mov) [.s 14]⟩,
      ⟨some 16, some (15, true), .ex (.fa 0) [.s 7]⟩,
      ⟨some 17, some (15, true), .ex (.ld 1) [.s 16]⟩,
      ⟨some 18, some (15, true), .ex (.ibin .eql) [.s 17, .k (.int .u8 1)]⟩,
      ⟨some 19, none, .ex (.pick) [.s 15, .s 18, .k (.bool false)]⟩,
      ⟨some 11, none, .ex (.mov) [.s 19]⟩])
    (.cond (.s 11)
     (.draw (.op ⟨some 20, none, .ex (.mov) [.s 1]⟩ (.op ⟨some 21, none, .ex (.fa 1) [.s 7]⟩ (.op ⟨some 23, none, .ex (.fa 4) [.s 6]⟩ (.op ⟨some 24, none, .ex (.ld 1) [.s 23]⟩ (.op ⟨some 25, none, .ex (.fa 4) [.s 7]⟩ (.op ⟨some 26, none, .ex (.ld 1) [.s 25]⟩ (.fork (.op ⟨some 22, none, .ex (.ld 1) [.s 21]⟩ (.op ⟨some 27, none, .callf 105 [.s 24, .s 26]⟩ (.op ⟨some 28, none, .callf 101 [.s 20, .s 22, .s 27]⟩ .done))) (.op ⟨some 27, none, .callf 105 [.s 24, .s 26]⟩ (.op ⟨some 22, none, .ex (.ld 1) [.s 21]⟩ (.op ⟨some 28, none, .callf 101 [.s 20, .s 22, .s 27]⟩ .done)))))))))))
     (.seq
      (.region [⟨some 30, none, .ex (.fa 0) [.s 6]⟩,
        ⟨some 31, none, .ex (.ld 1) [.s 30]⟩,
        ⟨some 32, none, .ex (.ibin .eql) [.s 31, .k (.int .u8 1)]⟩,
        ⟨some 29, none, .ex (.mov) [.s 32]⟩])
      (.cond (.s 29)
       (.region [⟨some 33, none, .ex (.mov) [.s 1]⟩,
         ⟨some 34, none, .ex (.fa 1) [.s 7]⟩,
         ⟨some 35, none, .ex (.ld 1) [.s 34]⟩,
         ⟨some 36, none, .callf 103 [.s 33, .s 35]⟩])
       (.seq
        (.region [⟨some 38, none, .ex (.fa 0) [.s 7]⟩,
          ⟨some 39, none, .ex (.ld 1) [.s 38]⟩,
          ⟨some 40, none, .ex (.ibin .eql) [.s 39, .k (.int .u8 1)]⟩,
          ⟨some 37, none, .ex (.mov) [.s 40]⟩])
        (.cond (.s 37)
         (.seq
          (.region [⟨some 41, none, .ex (.fa 2) [.s 6]⟩,
            ⟨some 42, none, .ex (.ld 1) [.s 41]⟩,
            ⟨some 43, none, .ex (.len) [.s 42]⟩,
            ⟨some 44, none, .ex (.mov) [.k (.int .i64 0)]⟩])
          (.block 1
           (.loop
            (.seq
             (.region [⟨some 45, none, .ex (.ibin .lss) [.s 44, .s 43]⟩])
             (.seq
              (.cond (.s 45)
               .skip
               (.exit 1))
              (.seq
               (.block 2
                (.seq
                 (.region [⟨some 46, none, .ex (.ia 1) [.s 42, .s 44]⟩,
                   ⟨some 47, none, .ex (.ld 1) [.s 46]⟩,
                   ⟨some 9, none, .ex (.mov) [.s 47]⟩])
                 (.seq
                  (.region [⟨some 48, none, .ex (.mov) [.s 0]⟩,
                    ⟨some 49, none, .ex (.mov) [.s 9]⟩,
                    ⟨some 50, none, .ex (.fa 3) [.s 6]⟩,
                    ⟨some 51, none, .ex (.ld 1) [.s 50]⟩,
                    ⟨some 52, none, .ex (.build [(.int .i32 0), .nils] [(0, 1), (1, 1)]) [.s 49, .s 51]⟩,
                    ⟨some 53, none, .ex (.fa 4) [.s 7]⟩,
                    ⟨some 54, none, .ex (.ld 1) [.s 53]⟩,
                    ⟨some 55, none, .callf 106 [.s 48, .s 52, .s 54]⟩,
                    ⟨some 10, none, .ex (.alloc [(.int .i32 0), .nils]) []⟩,
                    ⟨none, none, .ex (.st 2) [.s 10, .s 55]⟩])
                  (.region [⟨some 56, none, .ex (.mov) [.s 1]⟩,
                    ⟨some 57, none, .ex (.fa 0) [.s 10]⟩,
                    ⟨some 58, none, .ex (.ld 1) [.s 57]⟩,
                    ⟨some 59, none, .ex (.bsl 1 1 [(.int .i32 0)] [(0, 1)]) [.s 58]⟩,
                    ⟨some 60, none, .ex (.fa 1) [.s 10]⟩,
                    ⟨some 61, none, .ex (.ld 1) [.s 60]⟩,
                    ⟨some 62, none, .callf 102 [.s 56, .s 59, .s 61]⟩]))))
               (.region [⟨some 63, none, .ex (.ibin .add) [.s 44, .k (.int .i64 1)]⟩,
                 ⟨some 44, none, .ex (.mov) [.s 63]⟩])))))))
         .skip)))))))),
 []⟩
theorem c81 : compFn Go.Proofs.Tryz.prog 81 = some fn81 := by kernel_rfl

/-- (*rubric/normal.Maker).Ops -/
def fn82 : AFn := ⟨42,
 (.seq
  (.region [⟨some 2, none, .ex (.mov) [.k .nils]⟩])
  (.seq
   (.seq
    (.region [⟨some 5, none, .ex (.mov) [.s 0]⟩,
      ⟨some 6, none, .ex (.eqnil 0 false) [.s 5, .k .nilp]⟩])
    (.cond (.s 6)
     (.seq
      (.region [⟨some 2, none, .ex (.mov) [.k .nils]⟩])
      .ret)
     .skip))
   (.seq
    (.draw (.op ⟨some 7, none, .ex (.mov) [.s 0]⟩ (.op ⟨some 8, none, .ex (.nilck) [.s 7]⟩ (.op ⟨some 9, none, .ex (.fa 0) [.s 8]⟩ (.op ⟨some 11, none, .ex (.mov) [.s 0]⟩ (.fork (.op ⟨some 10, none, .ex (.ld 1) [.s 9]⟩ (.op ⟨some 12, none, .callf 108 [.s 11]⟩ (.op ⟨some 13, none, .ex (.bsl 1 2 [.nils, .nils] [(0, 1), (1, 1)]) [.s 10, .s 12]⟩ (.op ⟨some 14, none, .callf 107 [.s 13]⟩ (.op ⟨some 3, none, .ex (.mov) [.s 14]⟩ .done))))) (.op ⟨some 12, none, .callf 108 [.s 11]⟩ (.op ⟨some 10, none, .ex (.ld 1) [.s 9]⟩ (.op ⟨some 13, none, .ex (.bsl 1 2 [.nils, .nils] [(0, 1), (1, 1)]) [.s 10, .s 12]⟩ (.op ⟨some 14, none, .callf 107 [.s 13]⟩ (.op ⟨some 3, none, .ex (.mov) [.s 14]⟩ .done)))))))))))
    (.seq
     (.seq
      (.region [⟨some 15, none, .ex (.mov) [.s 3]⟩,
        ⟨some 16, none, .ex (.len) [.s 15]⟩,
        ⟨some 17, none, .ex (.ibin .sub) [.s 16, .k (.int .i64 1)]⟩,
        ⟨some 4, none, .ex (.mov) [.s 17]⟩])
      (.seq
       (.region [⟨some 18, none, .ex (.mov) [.s 4]⟩,
         ⟨some 19, none, .ex (.ibin .geq) [.s 18, .k (.int .i64 0)]⟩,
         ⟨some 20, none, .ex (.mov) [.s 19]⟩,
         ⟨some 21, some (20, true), .ex (.mov) [.s 3]⟩,
         ⟨some 22, some (20, true), .ex (.mov) [.s 4]⟩,
         ⟨some 23, some (20, true), .ex (.ia 5) [.s 21, .s 22]⟩,
         ⟨some 24, some (20, true), .ex (.fa 0) [.s 23]⟩,
         ⟨some 25, some (20, true), .ex (.ld 1) [.s 24]⟩,
         ⟨some 26, some (20, true), .ex (.ibin .eql) [.s 25, .k (.int .u8 1)]⟩,
         ⟨some 27, none, .ex (.pick) [.s 20, .s 26, .k (.bool false)]⟩,
         ⟨some 28, none, .ex (.mov) [.s 27]⟩,
         ⟨some 29, some (28, true), .ex (.mov) [.s 3]⟩,
         ⟨some 30, some (28, true), .ex (.mov) [.s 4]⟩,
         ⟨some 31, some (28, true), .ex (.ia 5) [.s 29, .s 30]⟩,
         ⟨some 32, some (28, true), .ex (.fa 4) [.s 31]⟩,
         ⟨some 33, some (28, true), .ex (.ld 1) [.s 32]⟩,
         ⟨some 34, some (28, true), .ex (.len) [.s 33]⟩,
         ⟨some 35, some (28, true), .ex (.ibin .eql) [.s 34, .k (.int .i64 0)]⟩,
         ⟨some 36, none, .ex (.pick) [.s 28, .s 35, .k (.bool false)]⟩])
       (.cond (.s 36)
        (.region [⟨some 37, none, .ex (.mov) [.s 3]⟩,
          ⟨some 38, none, .ex (.mov) [.s 4]⟩,
          ⟨some 39, none, .ex (.slc 5 false true false) [.s 37, .s 38]⟩,
          ⟨some 3, none, .ex (.mov) [.s 39]⟩])
        .skip)))
     (.seq
      (.region [⟨some 40, none, .ex (.mov) [.s 3]⟩,
        ⟨some 41, none, .callf 37 [.s 40]⟩,
        ⟨some 2, none, .ex (.mov) [.s 41]⟩])
      .ret))))),
 [.t 2]⟩
theorem c82 : compFn Go.Proofs.Tryz.prog 82 = some fn82 := by kernel_rfl

/-- rubric/ops.Takes -/
def fn83 : AFn := ⟨21,
 (.seq
  (.region [⟨some 2, none, .ex (.mov) [.k (.int .i64 0)]⟩])
  (.seq
   (.region [⟨some 3, none, .ex (.mov) [.k (.int .i64 0)]⟩])
   (.seq
    (.seq
     (.region [⟨some 6, none, .ex (.mov) [.s 0]⟩,
       ⟨some 7, none, .ex (.len) [.s 6]⟩,
       ⟨some 8, none, .ex (.mov) [.k (.int .i64 0)]⟩])
     (.block 0
      (.loop
       (.seq
        (.region [⟨some 9, none, .ex (.ibin .lss) [.s 8, .s 7]⟩])
        (.seq
         (.cond (.s 9)
          .skip
          (.exit 0))
         (.seq
          (.block 1
           (.seq
            (.region [⟨some 10, none, .ex (.ia 5) [.s 6, .s 8]⟩,
              ⟨some 11, none, .ex (.lda 5) [.s 10]⟩,
              ⟨some 5, none, .ex (.alloc [(.int .u8 0), (.int .i64 0), .nils, .nils, .nils]) []⟩,
              ⟨none, none, .ex (.st 5) [.s 5, .s 11]⟩])
            (.seq
             (.region [⟨some 12, none, .ex (.fa 0) [.s 5]⟩,
               ⟨some 13, none, .ex (.ld 1) [.s 12]⟩,
               ⟨some 14, none, .ex (.ibin .neq) [.s 13, .k (.int .u8 2)]⟩])
             (.cond (.s 14)
              (.region [⟨some 15, none, .ex (.mov) [.s 3]⟩,
                ⟨some 16, none, .ex (.fa 1) [.s 5]⟩,
                ⟨some 17, none, .ex (.ld 1) [.s 16]⟩,
                ⟨some 18, none, .ex (.ibin .add) [.s 15, .s 17]⟩,
                ⟨some 3, none, .ex (.mov) [.s 18]⟩])
              .skip))))
          (.region [⟨some 19, none, .ex (.ibin .add) [.s 8, .k (.int .i64 1)]⟩,
            ⟨some 8, none, .ex (.mov) [.s 19]⟩])))))))
    (.seq
     (.region [⟨some 20, none, .ex (.mov) [.s 3]⟩,
       ⟨some 2, none, .ex (.mov) [.s 20]⟩])
     .ret)))),
 [.t 2]⟩
theorem c83 : compFn Go.Proofs.Tryz.prog 83 = some fn83 := by kernel_rfl

/-- rubric/ops.Makes -/
def fn84 : AFn := ⟨21,
 (.seq
  (.region [⟨some 2, none, .ex (.mov) [.k (.int .i64 0)]⟩])
  (.seq
   (.region [⟨some 3, none, .ex (.mov) [.k (.int .i64 0)]⟩])
   (.seq
    (.seq
     (.region [⟨some 6, none, .ex (.mov) [.s 0]⟩,
       ⟨some 7, none, .ex (.len) [.s 6]⟩,
       ⟨some 8, none, .ex (.mov) [.k (.int .i64 0)]⟩])
     (.block 0
      (.loop
       (.seq
        (.region [⟨some 9, none, .ex (.ibin .lss) [.s 8, .s 7]⟩])
        (.seq
         (.cond (.s 9)
          .skip
          (.exit 0))
         (.seq
          (.block 1
           (.seq
            (.region [⟨some 10, none, .ex (.ia 5) [.s 6, .s 8]⟩,
              ⟨some 11, none, .ex (.lda 5) [.s 10]⟩,
              ⟨some 5, none, .ex (.alloc [(.int .u8 0), (.int .i64 0), .nils, .nils, .nils]) []⟩,
              ⟨none, none, .ex (.st 5) [.s 5, .s 11]⟩])
            (.seq
             (.region [⟨some 12, none, .ex (.fa 0) [.s 5]⟩,
               ⟨some 13, none, .ex (.ld 1) [.s 12]⟩,
               ⟨some 14, none, .ex (.ibin .neq) [.s 13, .k (.int .u8 3)]⟩])
             (.cond (.s 14)
              (.region [⟨some 15, none, .ex (.mov) [.s 3]⟩,
                ⟨some 16, none, .ex (.lda 5) [.s 5]⟩,
                ⟨some 17, none, .callf 109 [.s 16]⟩,
                ⟨some 18, none, .ex (.ibin .add) [.s 15, .s 17]⟩,
                ⟨some 3, none, .ex (.mov) [.s 18]⟩])
              .skip))))
          (.region [⟨some 19, none, .ex (.ibin .add) [.s 8, .k (.int .i64 1)]⟩,
            ⟨some 8, none, .ex (.mov) [.s 19]⟩])))))))
    (.seq
     (.region [⟨some 20, none, .ex (.mov) [.s 3]⟩,
       ⟨some 2, none, .ex (.mov) [.s 20]⟩])
     .ret)))),
 [.t 2]⟩
theorem c84 : compFn Go.Proofs.Tryz.prog 84 = some fn84 := by kernel_rfl

/-- rubric/ops.May -/
def fn100 : AFn := ⟨36,
 (.seq
  (.region [⟨some 4, none, .ex (.mov) [.k (.int .i64 0)]⟩])
  (.seq
   (.region [⟨some 5, none, .ex (.mov) [.k (.int .i64 0)]⟩])
   (.seq
    (.seq
     (.region [⟨some 9, none, .ex (.mov) [.s 1]⟩,
       ⟨some 10, none, .ex (.len) [.s 9]⟩,
       ⟨some 11, none, .ex (.mov) [.k (.int .i64 0)]⟩])
     (.block 0
      (.loop
       (.seq
        (.region [⟨some 12, none, .ex (.ibin .lss) [.s 11, .s 10]⟩])
        (.seq
         (.cond (.s 12)
          .skip
          (.exit 0))
         (.seq
          (.block 1
           (.seq
            (.region [⟨some 13, none, .ex (.ia 5) [.s 9, .s 11]⟩,
              ⟨some 14, none, .ex (.lda 5) [.s 13]⟩,
              ⟨some 7, none, .ex (.alloc [(.int .u8 0), (.int .i64 0), .nils, .nils, .nils]) []⟩,
              ⟨none, none, .ex (.st 5) [.s 7, .s 14]⟩])
            (.seq
             (.region [⟨some 15, none, .ex (.mov) [.s 0]⟩,
               ⟨some 16, none, .ex (.lda 5) [.s 7]⟩,
               ⟨some 17, none, .callf 119 [.s 15, .s 16]⟩,
               ⟨some 8, none, .ex (.mov) [.s 17]⟩])
             (.block 2
              (.seq
               (.region [⟨some 19, none, .ex (.mov) [.s 8]⟩,
                 ⟨some 20, none, .ex (.ibin .eql) [.s 19, .k (.int .i64 3)]⟩,
                 ⟨some 18, none, .ex (.mov) [.s 20]⟩])
               (.cond (.s 18)
                (.seq
                 (.region [⟨some 21, none, .ex (.mov) [.s 8]⟩,
                   ⟨some 4, none, .ex (.mov) [.s 21]⟩])
                 .ret)
                (.seq
                 (.region [⟨some 23, none, .ex (.mov) [.s 8]⟩,
                   ⟨some 24, none, .ex (.ibin .neq) [.s 23, .k (.int .i64 0)]⟩,
                   ⟨some 22, none, .ex (.mov) [.s 24]⟩])
                 (.cond (.s 22)
                  (.region [⟨some 25, none, .ex (.mov) [.s 8]⟩,
                    ⟨some 5, none, .ex (.mov) [.s 25]⟩])
                  .skip))))))))
          (.region [⟨some 26, none, .ex (.ibin .add) [.s 11, .k (.int .i64 1)]⟩,
            ⟨some 11, none, .ex (.mov) [.s 26]⟩])))))))
    (.seq
     (.seq
      (.region [⟨some 27, none, .ex (.mov) [.s 1]⟩,
        ⟨some 28, none, .callf 83 [.s 27]⟩,
        ⟨some 29, none, .ex (.ibin .gtr) [.s 28, .k (.int .i64 536870912)]⟩,
        ⟨some 30, none, .ex (.mov) [.s 29]⟩,
        ⟨some 31, some (30, false), .ex (.mov) [.s 1]⟩,
        ⟨some 32, some (30, false), .callf 84 [.s 31]⟩,
        ⟨some 33, some (30, false), .ex (.ibin .gtr) [.s 32, .k (.int .i64 536870912)]⟩,
        ⟨some 34, none, .ex (.pick) [.s 30, .k (.bool true), .s 33]⟩])
      (.cond (.s 34)
       (.seq
        (.region [⟨some 4, none, .ex (.mov) [.k (.int .i64 3)]⟩])
        .ret)
       .skip))
     (.seq
      (.region [⟨some 35, none, .ex (.mov) [.s 5]⟩,
        ⟨some 4, none, .ex (.mov) [.s 35]⟩])
      .ret))))),
 [.t 4]⟩
theorem c100 : compFn Go.Proofs.Tryz.prog 100 = some fn100 := by kernel_rfl

/-- (*rubric/normal.Maker).Retain -/
def fn101 : AFn := ⟨85,
 (.seq
  (.seq
   (.region [⟨some 7, none, .ex (.mov) [.s 0]⟩,
     ⟨some 8, none, .ex (.eqnil 0 false) [.s 7, .k .nilp]⟩,
     ⟨some 9, none, .ex (.mov) [.s 8]⟩,
     ⟨some 10, some (9, false), .ex (.mov) [.s 1]⟩,
     ⟨some 11, some (9, false), .ex (.ibin .lss) [.s 10, .k (.int .i64 1)]⟩,
     ⟨some 12, none, .ex (.pick) [.s 9, .k (.bool true), .s 11]⟩])
   (.cond (.s 12)
    .ret
    .skip))
  (.seq
   (.draw (.op ⟨some 13, none, .ex (.mov) [.s 0]⟩ (.op ⟨some 14, none, .ex (.mov) [.s 0]⟩ (.op ⟨some 15, none, .ex (.nilck) [.s 14]⟩ (.op ⟨some 16, none, .ex (.fa 0) [.s 15]⟩ (.op ⟨some 18, none, .ex (.mov) [.s 0]⟩ (.fork (.op ⟨some 17, none, .ex (.ld 1) [.s 16]⟩ (.op ⟨some 19, none, .callf 108 [.s 18]⟩ (.op ⟨some 20, none, .ex (.app 5 88) [.s 17, .s 19]⟩ (.op ⟨some 21, none, .ex (.nilck) [.s 13]⟩ (.op ⟨some 22, none, .ex (.fa 0) [.s 21]⟩ (.op ⟨none, none, .ex (.st 1) [.s 22, .s 20]⟩ .done)))))) (.op ⟨some 19, none, .callf 108 [.s 18]⟩ (.op ⟨some 17, none, .ex (.ld 1) [.s 16]⟩ (.op ⟨some 20, none, .ex (.app 5 88) [.s 17, .s 19]⟩ (.op ⟨some 21, none, .ex (.nilck) [.s 13]⟩ (.op ⟨some 22, none, .ex (.fa 0) [.s 21]⟩ (.op ⟨none, none, .ex (.st 1) [.s 22, .s 20]⟩ .done)))))))))))))
   (.seq
    (.region [⟨some 23, none, .ex (.mov) [.s 0]⟩,
      ⟨some 24, none, .ex (.mov) [.s 0]⟩,
      ⟨some 25, none, .ex (.nilck) [.s 23]⟩,
      ⟨some 26, none, .ex (.fa 1) [.s 25]⟩,
      ⟨none, none, .ex (.st 1) [.s 26, .k .nils]⟩,
      ⟨some 27, none, .ex (.nilck) [.s 24]⟩,
      ⟨some 28, none, .ex (.fa 2) [.s 27]⟩,
      ⟨none, none, .ex (.st 1) [.s 28, .k (.int .i64 0)]⟩])
    (.seq
     (.region [⟨some 29, none, .ex (.mov) [.s 0]⟩,
       ⟨some 30, none, .ex (.nilck) [.s 29]⟩,
       ⟨some 31, none, .ex (.fa 0) [.s 30]⟩,
       ⟨some 32, none, .ex (.ld 1) [.s 31]⟩,
       ⟨some 33, none, .ex (.len) [.s 32]⟩,
       ⟨some 34, none, .ex (.ibin .sub) [.s 33, .k (.int .i64 1)]⟩,
       ⟨some 6, none, .ex (.mov) [.s 34]⟩])
     (.seq
      (.seq
       (.region [⟨some 35, none, .ex (.mov) [.s 6]⟩,
         ⟨some 36, none, .ex (.ibin .geq) [.s 35, .k (.int .i64 0)]⟩,
         ⟨some 37, none, .ex (.mov) [.s 36]⟩,
         ⟨some 38, some (37, true), .ex (.mov) [.s 0]⟩,
         ⟨some 39, some (37, true), .ex (.nilck) [.s 38]⟩,
         ⟨some 40, some (37, true), .ex (.fa 0) [.s 39]⟩,
         ⟨some 41, some (37, true), .ex (.ld 1) [.s 40]⟩,
         ⟨some 42, some (37, true), .ex (.mov) [.s 6]⟩,
         ⟨some 43, some (37, true), .ex (.ia 5) [.s 41, .s 42]⟩,
         ⟨some 44, some (37, true), .ex (.fa 0) [.s 43]⟩,
         ⟨some 45, some (37, true), .ex (.ld 1) [.s 44]⟩,
         ⟨some 46, some (37, true), .ex (.ibin .eql) [.s 45, .k (.int .u8 1)]⟩,
         ⟨some 47, none, .ex (.pick) [.s 37, .s 46, .k (.bool false)]⟩,
         ⟨some 48, none, .ex (.mov) [.s 47]⟩,
         ⟨some 49, some (48, true), .ex (.mov) [.s 0]⟩,
         ⟨some 50, some (48, true), .ex (.nilck) [.s 49]⟩,
         ⟨some 51, some (48, true), .ex (.fa 0) [.s 50]⟩,
         ⟨some 52, some (48, true), .ex (.ld 1) [.s 51]⟩,
         ⟨some 53, some (48, true), .ex (.mov) [.s 6]⟩,
         ⟨some 54, some (48, true), .ex (.ia 5) [.s 52, .s 53]⟩,
         ⟨some 55, some (48, true), .ex (.fa 4) [.s 54]⟩,
         ⟨some 56, some (48, true), .ex (.ld 1) [.s 55]⟩,
         ⟨some 57, some (48, true), .ex (.mov) [.s 2]⟩,
         ⟨some 58, some (48, true), .callf 120 [.s 56, .s 57]⟩,
         ⟨some 59, none, .ex (.pick) [.s 48, .s 58, .k (.bool false)]⟩])
       (.cond (.s 59)
        (.seq
         (.region [⟨some 60, none, .ex (.mov) [.s 0]⟩,
           ⟨some 61, none, .ex (.nilck) [.s 60]⟩,
           ⟨some 62, none, .ex (.fa 0) [.s 61]⟩,
           ⟨some 63, none, .ex (.ld 1) [.s 62]⟩,
           ⟨some 64, none, .ex (.mov) [.s 6]⟩,
           ⟨some 65, none, .ex (.ia 5) [.s 63, .s 64]⟩,
           ⟨some 66, none, .ex (.fa 1) [.s 65]⟩,
           ⟨some 67, none, .ex (.ld 1) [.s 66]⟩,
           ⟨some 68, none, .ex (.mov) [.s 1]⟩,
           ⟨some 69, none, .ex (.ibin .add) [.s 67, .s 68]⟩,
           ⟨some 70, none, .ex (.ia 5) [.s 63, .s 64]⟩,
           ⟨some 71, none, .ex (.fa 1) [.s 70]⟩,
           ⟨none, none, .ex (.st 1) [.s 71, .s 69]⟩])
         .ret)
        .skip))
      (.draw (.op ⟨some 72, none, .ex (.mov) [.s 0]⟩ (.op ⟨some 73, none, .ex (.mov) [.s 0]⟩ (.op ⟨some 74, none, .ex (.nilck) [.s 73]⟩ (.op ⟨some 75, none, .ex (.fa 0) [.s 74]⟩ (.op ⟨some 77, none, .ex (.mov) [.s 1]⟩ (.op ⟨some 78, none, .ex (.mov) [.s 2]⟩ (.fork (.op ⟨some 76, none, .ex (.ld 1) [.s 75]⟩ (.op ⟨some 79, none, .callf 53 [.s 78]⟩ (.op ⟨some 80, none, .ex (.build [(.int .u8 0), (.int .i64 0), .nils, .nils, .nils] [(0, 1), (1, 1), (4, 1)]) [.k (.int .u8 1), .s 77, .s 79]⟩ (.op ⟨some 81, none, .ex (.bsl 5 1 [(.int .u8 0), (.int .i64 0), .nils, .nils, .nils] [(0, 5)]) [.s 80]⟩ (.op ⟨some 82, none, .ex (.app 5 88) [.s 76, .s 81]⟩ (.op ⟨some 83, none, .ex (.nilck) [.s 72]⟩ (.op ⟨some 84, none, .ex (.fa 0) [.s 83]⟩ (.op ⟨none, none, .ex (.st 1) [.s 84, .s 82]⟩ .done)))))))) (.op ⟨some 79, none, .callf 53 [.s 78]⟩ (.op ⟨some 76, none, .ex (.ld 1) [.s 75]⟩ (.op ⟨some 80, none, .ex (.build [(.int .u8 0), (.int .i64 0), .nils, .nils, .nils] [(0, 1), (1, 1), (4, 1)]) [.k (.int .u8 1), .s 77, .s 79]⟩ (.op ⟨some 81, none, .ex (.bsl 5 1 [(.int .u8 0), (.int .i64 0), .nils, .nils, .nils] [(0, 5)]) [.s 80]⟩ (.op ⟨some 82, none, .ex (.app 5 88) [.s 76, .s 81]⟩ (.op ⟨some 83, none, .ex (.nilck) [.s 72]⟩ (.op ⟨some 84, none, .ex (.fa 0) [.s 83]⟩ (.op ⟨none, none, .ex (.st 1) [.s 84, .s 82]⟩ .done))))))))))))))))))))),
 []⟩
theorem c101 : compFn Go.Proofs.Tryz.prog 101 = some fn101 := by kernel_rfl

/-- (*rubric/normal.Maker).Insert -/
def fn102 : AFn := ⟨65,
 (.seq
  (.seq
   (.region [⟨some 7, none, .ex (.mov) [.s 0]⟩,
     ⟨some 8, none, .ex (.eqnil 0 false) [.s 7, .k .nilp]⟩,
     ⟨some 9, none, .ex (.mov) [.s 8]⟩,
     ⟨some 10, some (9, false), .ex (.mov) [.s 1]⟩,
     ⟨some 11, some (9, false), .ex (.len) [.s 10]⟩,
     ⟨some 12, some (9, false), .ex (.ibin .eql) [.s 11, .k (.int .i64 0)]⟩,
     ⟨some 13, none, .ex (.pick) [.s 9, .k (.bool true), .s 12]⟩])
   (.cond (.s 13)
    .ret
    .skip))
  (.seq
   (.region [⟨some 14, none, .ex (.mov) [.s 0]⟩,
     ⟨some 15, none, .ex (.nilck) [.s 14]⟩,
     ⟨some 16, none, .ex (.fa 1) [.s 15]⟩,
     ⟨some 17, none, .ex (.ld 1) [.s 16]⟩,
     ⟨some 18, none, .ex (.len) [.s 17]⟩,
     ⟨some 19, none, .ex (.ibin .sub) [.s 18, .k (.int .i64 1)]⟩,
     ⟨some 6, none, .ex (.mov) [.s 19]⟩])
   (.seq
    (.seq
     (.region [⟨some 20, none, .ex (.mov) [.s 6]⟩,
       ⟨some 21, none, .ex (.ibin .geq) [.s 20, .k (.int .i64 0)]⟩,
       ⟨some 22, none, .ex (.mov) [.s 21]⟩,
       ⟨some 23, some (22, true), .ex (.mov) [.s 0]⟩,
       ⟨some 24, some (22, true), .ex (.nilck) [.s 23]⟩,
       ⟨some 25, some (22, true), .ex (.fa 1) [.s 24]⟩,
       ⟨some 26, some (22, true), .ex (.ld 1) [.s 25]⟩,
       ⟨some 27, some (22, true), .ex (.mov) [.s 6]⟩,
       ⟨some 28, some (22, true), .ex (.ia 5) [.s 26, .s 27]⟩,
       ⟨some 29, some (22, true), .ex (.fa 3) [.s 28]⟩,
       ⟨some 30, some (22, true), .ex (.ld 1) [.s 29]⟩,
       ⟨some 31, some (22, true), .ex (.mov) [.s 2]⟩,
       ⟨some 32, some (22, true), .callf 121 [.s 30, .s 31]⟩,
       ⟨some 33, none, .ex (.pick) [.s 22, .s 32, .k (.bool false)]⟩])
     (.cond (.s 33)
      (.seq
       (.draw (.op ⟨some 34, none, .ex (.mov) [.s 0]⟩ (.op ⟨some 35, none, .ex (.nilck) [.s 34]⟩ (.op ⟨some 36, none, .ex (.fa 1) [.s 35]⟩ (.op ⟨some 38, none, .ex (.mov) [.s 6]⟩ (.op ⟨some 39, none, .ex (.mov) [.s 0]⟩ (.op ⟨some 40, none, .ex (.nilck) [.s 39]⟩ (.op ⟨some 41, none, .ex (.fa 1) [.s 40]⟩ (.op ⟨some 42, none, .ex (.ld 1) [.s 41]⟩ (.op ⟨some 43, none, .ex (.mov) [.s 6]⟩ (.op ⟨some 44, none, .ex (.ia 5) [.s 42, .s 43]⟩ (.op ⟨some 45, none, .ex (.fa 2) [.s 44]⟩ (.op ⟨some 46, none, .ex (.ld 1) [.s 45]⟩ (.op ⟨some 47, none, .ex (.mov) [.s 1]⟩ (.fork (.op ⟨some 37, none, .ex (.ld 1) [.s 36]⟩ (.op ⟨some 48, none, .ex (.app 1 4) [.s 46, .s 47]⟩ (.op ⟨some 49, none, .ex (.ia 5) [.s 37, .s 38]⟩ (.op ⟨some 50, none, .ex (.fa 2) [.s 49]⟩ (.op ⟨none, none, .ex (.st 1) [.s 50, .s 48]⟩ .done))))) (.op ⟨some 48, none, .ex (.app 1 4) [.s 46, .s 47]⟩ (.op ⟨some 37, none, .ex (.ld 1) [.s 36]⟩ (.op ⟨some 49, none, .ex (.ia 5) [.s 37, .s 38]⟩ (.op ⟨some 50, none, .ex (.fa 2) [.s 49]⟩ (.op ⟨none, none, .ex (.st 1) [.s 50, .s 48]⟩ .done))))))))))))))))))))
       .ret)
      .skip))
    (.draw (.op ⟨some 51, none, .ex (.mov) [.s 0]⟩ (.op ⟨some 52, none, .ex (.mov) [.s 0]⟩ (.op ⟨some 53, none, .ex (.nilck) [.s 52]⟩ (.op ⟨some 54, none, .ex (.fa 1) [.s 53]⟩ (.op ⟨some 56, none, .ex (.mov) [.s 1]⟩ (.op ⟨some 58, none, .ex (.mov) [.s 2]⟩ (.fork (.op ⟨some 55, none, .ex (.ld 1) [.s 54]⟩ (.op ⟨some 57, none, .callf 51 [.s 56]⟩ (.op ⟨some 59, none, .callf 52 [.s 58]⟩ (.op ⟨some 60, none, .ex (.build [(.int .u8 0), (.int .i64 0), .nils, .nils, .nils] [(0, 1), (2, 1), (3, 1)]) [.k (.int .u8 2), .s 57, .s 59]⟩ (.op ⟨some 61, none, .ex (.bsl 5 1 [(.int .u8 0), (.int .i64 0), .nils, .nils, .nils] [(0, 5)]) [.s 60]⟩ (.op ⟨some 62, none, .ex (.app 5 88) [.s 55, .s 61]⟩ (.op ⟨some 63, none, .ex (.nilck) [.s 51]⟩ (.op ⟨some 64, none, .ex (.fa 1) [.s 63]⟩ (.op ⟨none, none, .ex (.st 1) [.s 64, .s 62]⟩ .done))))))))) (.op ⟨some 57, none, .callf 51 [.s 56]⟩ (.fork (.op ⟨some 55, none, .ex (.ld 1) [.s 54]⟩ (.op ⟨some 59, none, .callf 52 [.s 58]⟩ (.op ⟨some 60, none, .ex (.build [(.int .u8 0), (.int .i64 0), .nils, .nils, .nils] [(0, 1), (2, 1), (3, 1)]) [.k (.int .u8 2), .s 57, .s 59]⟩ (.op ⟨some 61, none, .ex (.bsl 5 1 [(.int .u8 0), (.int .i64 0), .nils, .nils, .nils] [(0, 5)]) [.s 60]⟩ (.op ⟨some 62, none, .ex (.app 5 88) [.s 55, .s 61]⟩ (.op ⟨some 63, none, .ex (.nilck) [.s 51]⟩ (.op ⟨some 64, none, .ex (.fa 1) [.s 63]⟩ (.op ⟨none, none, .ex (.st 1) [.s 64, .s 62]⟩ .done)))))))) (.op ⟨some 59, none, .callf 52 [.s 58]⟩ (.op ⟨some 55, none, .ex (.ld 1) [.s 54]⟩ (.op ⟨some 60, none, .ex (.build [(.int .u8 0), (.int .i64 0), .nils, .nils, .nils] [(0, 1), (2, 1), (3, 1)]) [.k (.int .u8 2), .s 57, .s 59]⟩ (.op ⟨some 61, none, .ex (.bsl 5 1 [(.int .u8 0), (.int .i64 0), .nils, .nils, .nils] [(0, 5)]) [.s 60]⟩ (.op ⟨some 62, none, .ex (.app 5 88) [.s 55, .s 61]⟩ (.op ⟨some 63, none, .ex (.nilck) [.s 51]⟩ (.op ⟨some 64, none, .ex (.fa 1) [.s 63]⟩ (.op ⟨none, none, .ex (.st 1) [.s 64, .s 62]⟩ .done))))))))))))))))))))),
 []⟩
theorem c102 : compFn Go.Proofs.Tryz.prog 102 = some fn102 := by kernel_rfl

/-- (*rubric/normal.Maker).Delete -/
def fn103 : AFn := ⟨15,
 (.seq
  (.region [⟨some 4, none, .ex (.mov) [.s 0]⟩,
    ⟨some 5, none, .ex (.eqnil 0 true) [.s 4, .k .nilp]⟩])
  (.cond (.s 5)
   (.region [⟨some 6, none, .ex (.mov) [.s 0]⟩,
     ⟨some 7, none, .ex (.nilck) [.s 6]⟩,
     ⟨some 8, none, .ex (.fa 2) [.s 7]⟩,
     ⟨some 9, none, .ex (.ld 1) [.s 8]⟩,
     ⟨some 10, none, .ex (.mov) [.s 1]⟩,
     ⟨some 11, none, .ex (.mx) [.s 10, .k (.int .i64 0)]⟩,
     ⟨some 12, none, .ex (.ibin .add) [.s 9, .s 11]⟩,
     ⟨some 13, none, .ex (.nilck) [.s 6]⟩,
     ⟨some 14, none, .ex (.fa 2) [.s 13]⟩,
     ⟨none, none, .ex (.st 1) [.s 14, .s 12]⟩])
   .skip)),
 []⟩
theorem c103 : compFn Go.Proofs.Tryz.prog 103 = some fn103 := by kernel_rfl

/-- (*rubric/compose.reader).left -/
def fn104 : AFn := ⟨36,
 (.seq
  (.region [⟨some 2, none, .ex (.mov) [.k (.int .i64 0)]⟩])
  (.seq
   (.seq
    (.region [⟨some 3, none, .ex (.mov) [.s 0]⟩,
      ⟨some 4, none, .ex (.nilck) [.s 3]⟩,
      ⟨some 5, none, .ex (.fa 0) [.s 4]⟩,
      ⟨some 6, none, .ex (.ld 1) [.s 5]⟩,
      ⟨some 7, none, .ex (.ia 5) [.s 6, .k (.int .i64 0)]⟩,
      ⟨some 8, none, .ex (.fa 0) [.s 7]⟩,
      ⟨some 9, none, .ex (.ld 1) [.s 8]⟩,
      ⟨some 10, none, .ex (.ibin .eql) [.s 9, .k (.int .u8 2)]⟩])
    (.cond (.s 10)
     (.seq
      (.draw (.op ⟨some 11, none, .ex (.mov) [.s 0]⟩ (.op ⟨some 12, none, .ex (.nilck) [.s 11]⟩ (.op ⟨some 13, none, .ex (.fa 0) [.s 12]⟩ (.op ⟨some 14, none, .ex (.ld 1) [.s 13]⟩ (.op ⟨some 15, none, .ex (.ia 5) [.s 14, .k (.int .i64 0)]⟩ (.op ⟨some 16, none, .ex (.fa 2) [.s 15]⟩ (.op ⟨some 17, none, .ex (.ld 1) [.s 16]⟩ (.op ⟨some 18, none, .ex (.len) [.s 17]⟩ (.op ⟨some 19, none, .ex (.mov) [.s 0]⟩ (.op ⟨some 20, none, .ex (.nilck) [.s 19]⟩ (.op ⟨some 21, none, .ex (.fa 1) [.s 20]⟩ (.op ⟨some 22, none, .ex (.ld 1) [.s 21]⟩ (.op ⟨some 23, none, .ex (.ibin .sub) [.s 18, .s 22]⟩ (.op ⟨some 2, none, .ex (.mov) [.s 23]⟩ .done)))))))))))))))
      .ret)
     .skip))
   (.seq
    (.draw (.op ⟨some 24, none, .ex (.mov) [.s 0]⟩ (.op ⟨some 25, none, .ex (.nilck) [.s 24]⟩ (.op ⟨some 26, none, .ex (.fa 0) [.s 25]⟩ (.op ⟨some 27, none, .ex (.ld 1) [.s 26]⟩ (.op ⟨some 28, none, .ex (.ia 5) [.s 27, .k (.int .i64 0)]⟩ (.op ⟨some 29, none, .ex (.fa 1) [.s 28]⟩ (.op ⟨some 30, none, .ex (.ld 1) [.s 29]⟩ (.op ⟨some 31, none, .ex (.mov) [.s 0]⟩ (.op ⟨some 32, none, .ex (.nilck) [.s 31]⟩ (.op ⟨some 33, none, .ex (.fa 1) [.s 32]⟩ (.op ⟨some 34, none, .ex (.ld 1) [.s 33]⟩ (.op ⟨some 35, none, .ex (.ibin .sub) [.s 30, .s 34]⟩ (.op ⟨some 2, none, .ex (.mov) [.s 35]⟩ .done))))))))))))))
    .ret))),
 [.t 2]⟩
theorem c104 : compFn Go.Proofs.Tryz.prog 104 = some fn104 := by kernel_rfl

/-- rubric/patch.Compose -/
def fn105 : AFn := ⟨56,
 (.seq
  (.region [⟨some 4, none, .ex (.mov) [.k .nils]⟩])
  (.seq
   (.region [⟨some 5, none, .ex (.mov) [.k .nils]⟩])
   (.seq
    (.region [⟨some 6, none, .ex (.mov) [.k (.int .i64 0)]⟩])
    (.seq
     (.seq
      (.region [⟨some 9, none, .ex (.mov) [.s 1]⟩,
        ⟨some 10, none, .ex (.len) [.s 9]⟩,
        ⟨some 11, none, .ex (.mov) [.k (.int .i64 0)]⟩])
      (.block 0
       (.loop
        (.seq
         (.region [⟨some 12, none, .ex (.ibin .lss) [.s 11, .s 10]⟩])
         (.seq
          (.cond (.s 12)
           .skip
           (.exit 0))
          (.seq
           (.block 1
            (.seq
             (.region [⟨some 13, none, .ex (.ia 6) [.s 9, .s 11]⟩,
               ⟨some 14, none, .ex (.lda 6) [.s 13]⟩,
               ⟨some 8, none, .ex (.alloc [(.int .i64 0), (.bool false), (.int .u8 0), (.int .i64 0), (.int .u64 0), (.str ⟨#[]⟩)]) []⟩,
               ⟨none, none, .ex (.st 6) [.s 8, .s 14]⟩])
             (.seq
              (.block 2
               (.loop
                (.seq
                 (.seq
                  (.draw (.op ⟨some 15, none, .ex (.mov) [.s 6]⟩ (.op ⟨some 16, none, .ex (.mov) [.s 0]⟩ (.op ⟨some 17, none, .ex (.len) [.s 16]⟩ (.op ⟨some 18, none, .ex (.ibin .lss) [.s 15, .s 17]⟩ (.op ⟨some 19, none, .ex (.mov) [.s 18]⟩ (.op ⟨some 20, some (19, true), .ex (.mov) [.s 0]⟩ (.op ⟨some 21, some (19, true), .ex (.mov) [.s 6]⟩ (.op ⟨some 22, some (19, true), .ex (.ia 6) [.s 20, .s 21]⟩ (.op ⟨some 23, some (19, true), .ex (.fa 0) [.s 22]⟩ (.op ⟨some 24, some (19, true), .ex (.ld 1) [.s 23]⟩ (.op ⟨some 25, some (19, true), .ex (.fa 0) [.s 8]⟩ (.op ⟨some 26, some (19, true), .ex (.ld 1) [.s 25]⟩ (.op ⟨some 27, some (19, true), .ex (.ibin .leq) [.s 24, .s 26]⟩ (.op ⟨some 28, none, .ex (.pick) [.s 19, .s 27, .k (.bool false)]⟩ .done)))))))))))))))
                  (.cond (.s 28)
                   .skip
                   (.exit 2)))
                 (.seq
                  (.block 3
                   (.seq
                    (.draw (.op ⟨some 31, none, .ex (.mov) [.s 0]⟩ (.op ⟨some 32, none, .ex (.mov) [.s 6]⟩ (.op ⟨some 33, none, .ex (.ia 6) [.s 31, .s 32]⟩ (.op ⟨some 34, none, .ex (.fa 0) [.s 33]⟩ (.op ⟨some 35, none, .ex (.ld 1) [.s 34]⟩ (.op ⟨some 36, none, .ex (.fa 0) [.s 8]⟩ (.op ⟨some 37, none, .ex (.ld 1) [.s 36]⟩ (.op ⟨some 38, none, .ex (.ibin .lss) [.s 35, .s 37]⟩ .done)))))))))
                    (.cond (.s 38)
                     (.region [⟨some 39, none, .ex (.mov) [.s 5]⟩,
                       ⟨some 40, none, .ex (.mov) [.s 0]⟩,
                       ⟨some 41, none, .ex (.mov) [.s 6]⟩,
                       ⟨some 42, none, .ex (.ia 6) [.s 40, .s 41]⟩,
                       ⟨some 43, none, .ex (.lda 6) [.s 42]⟩,
                       ⟨some 44, none, .ex (.bsl 6 1 [(.int .i64 0), (.bool false), (.int .u8 0), (.int .i64 0), (.int .u64 0), (.str ⟨#[]⟩)] [(0, 6)]) [.s 43]⟩,
                       ⟨some 45, none, .ex (.app 6 56) [.s 39, .s 44]⟩,
                       ⟨some 5, none, .ex (.mov) [.s 45]⟩])
                     .skip)))
                  (.region [⟨some 29, none, .ex (.mov) [.s 6]⟩,
                    ⟨some 30, none, .ex (.ibin .add) [.s 29, .k (.int .i64 1)]⟩,
                    ⟨some 6, none, .ex (.mov) [.s 30]⟩])))))
              (.region [⟨some 46, none, .ex (.mov) [.s 5]⟩,
                ⟨some 47, none, .ex (.lda 6) [.s 8]⟩,
                ⟨some 48, none, .ex (.bsl 6 1 [(.int .i64 0), (.bool false), (.int .u8 0), (.int .i64 0), (.int .u64 0), (.str ⟨#[]⟩)] [(0, 6)]) [.s 47]⟩,
                ⟨some 49, none, .ex (.app 6 56) [.s 46, .s 48]⟩,
                ⟨some 5, none, .ex (.mov) [.s 49]⟩]))))
           (.region [⟨some 50, none, .ex (.ibin .add) [.s 11, .k (.int .i64 1)]⟩,
             ⟨some 11, none, .ex (.mov) [.s 50]⟩])))))))
     (.seq
      (.region [⟨some 51, none, .ex (.mov) [.s 5]⟩,
        ⟨some 52, none, .ex (.mov) [.s 0]⟩,
        ⟨some 53, none, .ex (.mov) [.s 6]⟩,
        ⟨some 54, none, .ex (.slc 6 true false false) [.s 52, .s 53]⟩,
        ⟨some 55, none, .ex (.app 6 56) [.s 51, .s 54]⟩,
        ⟨some 4, none, .ex (.mov) [.s 55]⟩])
      .ret))))),
 [.t 4]⟩
theorem c105 : compFn Go.Proofs.Tryz.prog 105 = some fn105 := by kernel_rfl

/-- rubric/apply.Cell -/
def fn106 : AFn := ⟨19,
 (.seq
  (.region [⟨some 4, none, .ex (.box) [.s 1]⟩,
    ⟨some 6, none, .ex (.alloc [(.int .i32 0), .nils]) []⟩])
  (.seq
   (.draw (.op ⟨some 7, none, .ex (.fa 0) [.s 4]⟩ (.op ⟨some 9, none, .ex (.fa 1) [.s 4]⟩ (.op ⟨some 11, none, .ex (.mov) [.s 0]⟩ (.op ⟨some 12, none, .ex (.mov) [.s 2]⟩ (.op ⟨some 13, none, .ex (.fa 0) [.s 4]⟩ (.op ⟨some 14, none, .ex (.ld 1) [.s 13]⟩ (.op ⟨some 15, none, .ex (.ibin .eql) [.s 14, .k (.int .i32 10)]⟩ (.fork (.op ⟨some 8, none, .ex (.ld 1) [.s 7]⟩ (.fork (.op ⟨some 10, none, .ex (.ld 1) [.s 9]⟩ (.op ⟨some 16, none, .callf 123 [.s 11, .s 12, .s 15]⟩ (.op ⟨some 17, none, .callf 122 [.s 10, .s 16]⟩ (.op ⟨some 18, none, .ex (.build [(.int .i32 0), .nils] [(0, 1), (1, 1)]) [.s 8, .s 17]⟩ (.op ⟨none, none, .ex (.st 2) [.s 6, .s 18]⟩ .done))))) (.op ⟨some 16, none, .callf 123 [.s 11, .s 12, .s 15]⟩ (.op ⟨some 10, none, .ex (.ld 1) [.s 9]⟩ (.op ⟨some 17, none, .callf 122 [.s 10, .s 16]⟩ (.op ⟨some 18, none, .ex (.build [(.int .i32 0), .nils] [(0, 1), (1, 1)]) [.s 8, .s 17]⟩ (.op ⟨none, none, .ex (.st 2) [.s 6, .s 18]⟩ .done))))))) (.fork (.op ⟨some 10, none, .ex (.ld 1) [.s 9]⟩ (.fork (.op ⟨some 8, none, .ex (.ld 1) [.s 7]⟩ (.op ⟨some 16, none, .callf 123 [.s 11, .s 12, .s 15]⟩ (.op ⟨some 17, none, .callf 122 [.s 10, .s 16]⟩ (.op ⟨some 18, none, .ex (.build [(.int .i32 0), .nils] [(0, 1), (1, 1)]) [.s 8, .s 17]⟩ (.op ⟨none, none, .ex (.st 2) [.s 6, .s 18]⟩ .done))))) (.op ⟨some 16, none, .callf 123 [.s 11, .s 12, .s 15]⟩ (.fork (.op ⟨some 8, none, .ex (.ld 1) [.s 7]⟩ (.op ⟨some 17, none, .callf 122 [.s 10, .s 16]⟩ (.op ⟨some 18, none, .ex (.build [(.int .i32 0), .nils] [(0, 1), (1, 1)]) [.s 8, .s 17]⟩ (.op ⟨none, none, .ex (.st 2) [.s 6, .s 18]⟩ .done)))) (.op ⟨some 17, none, .callf 122 [.s 10, .s 16]⟩ (.op ⟨some 8, none, .ex (.ld 1) [.s 7]⟩ (.op ⟨some 18, none, .ex (.build [(.int .i32 0), .nils] [(0, 1), (1, 1)]) [.s 8, .s 17]⟩ (.op ⟨none, none, .ex (.st 2) [.s 6, .s 18]⟩ .done)))))))) (.op ⟨some 16, none, .callf 123 [.s 11, .s 12, .s 15]⟩ (.op ⟨some 10, none, .ex (.ld 1) [.s 9]⟩ (.fork (.op ⟨some 8, none, .ex (.ld 1) [.s 7]⟩ (.op ⟨some 17, none, .callf 122 [.s 10, .s 16]⟩ (.op ⟨some 18, none, .ex (.build [(.int .i32 0), .nils] [(0, 1), (1, 1)]) [.s 8, .s 17]⟩ (.op ⟨none, none, .ex (.st 2) [.s 6, .s 18]⟩ .done)))) (.op ⟨some 17, none, .callf 122 [.s 10, .s 16]⟩ (.op ⟨some 8, none, .ex (.ld 1) [.s 7]⟩ (.op ⟨some 18, none, .ex (.build [(.int .i32 0), .nils] [(0, 1), (1, 1)]) [.s 8, .s 17]⟩ (.op ⟨none, none, .ex (.st 2) [.s 6, .s 18]⟩ .done)))))))))))))))))
   .ret)),
 [.ca 6 2]⟩
theorem c106 : compFn Go.Proofs.Tryz.prog 106 = some fn106 := by kernel_rfl

/-- slices.Concat[[]rubric/api.Op,rubric/api.Op] -/
def fn107 : AFn := ⟨36,
 (.seq
  (.region [⟨some 2, none, .ex (.mov) [.k .nils]⟩])
  (.seq
   (.region [⟨some 3, none, .ex (.mov) [.k (.int .i64 0)]⟩])
   (.seq
    (.seq
     (.region [⟨some 9, none, .ex (.mov) [.s 0]⟩,
       ⟨some 10, none, .ex (.len) [.s 9]⟩,
       ⟨some 11, none, .ex (.mov) [.k (.int .i64 0)]⟩])
     (.block 0
      (.loop
       (.seq
        (.region [⟨some 12, none, .ex (.ibin .lss) [.s 11, .s 10]⟩])
        (.seq
         (.cond (.s 12)
          .skip
          (.exit 0))
         (.seq
          (.block 1
           (.seq
            (.region [⟨some 13, none, .ex (.ia 1) [.s 9, .s 11]⟩,
              ⟨some 14, none, .ex (.ld 1) [.s 13]⟩,
              ⟨some 5, none, .ex (.mov) [.s 14]⟩])
            (.seq
             (.region [⟨some 15, none, .ex (.mov) [.s 3]⟩,
               ⟨some 16, none, .ex (.mov) [.s 5]⟩,
               ⟨some 17, none, .ex (.len) [.s 16]⟩,
               ⟨some 18, none, .ex (.ibin .add) [.s 15, .s 17]⟩,
               ⟨some 3, none, .ex (.mov) [.s 18]⟩])
             (.seq
              (.region [⟨some 19, none, .ex (.mov) [.s 3]⟩,
                ⟨some 20, none, .ex (.ibin .lss) [.s 19, .k (.int .i64 0)]⟩])
              (.cond (.s 20)
               (.region [⟨some 21, none, .bad⟩,
                 ⟨none, none, .bad⟩])
               .skip)))))
          (.region [⟨some 22, none, .ex (.ibin .add) [.s 11, .k (.int .i64 1)]⟩,
            ⟨some 11, none, .ex (.mov) [.s 22]⟩])))))))
    (.seq
     (.region [⟨some 23, none, .ex (.mov) [.s 3]⟩,
       ⟨some 24, none, .callf 124 [.k .nils, .s 23]⟩,
       ⟨some 6, none, .ex (.mov) [.s 24]⟩])
     (.seq
      (.seq
       (.region [⟨some 25, none, .ex (.mov) [.s 0]⟩,
         ⟨some 26, none, .ex (.len) [.s 25]⟩,
         ⟨some 27, none, .ex (.mov) [.k (.int .i64 0)]⟩])
       (.block 2
        (.loop
         (.seq
          (.region [⟨some 28, none, .ex (.ibin .lss) [.s 27, .s 26]⟩])
          (.seq
           (.cond (.s 28)
            .skip
            (.exit 2))
           (.seq
            (.block 3
             (.seq
              (.region [⟨some 29, none, .ex (.ia 1) [.s 25, .s 27]⟩,
                ⟨some 30, none, .ex (.ld 1) [.s 29]⟩,
                ⟨some 8, none, .ex (.mov) [.s 30]⟩])
              (.region [⟨some 31, none, .ex (.mov) [.s 6]⟩,
                ⟨some 32, none, .ex (.mov) [.s 8]⟩,
                ⟨some 33, none, .ex (.app 5 88) [.s 31, .s 32]⟩,
                ⟨some 6, none, .ex (.mov) [.s 33]⟩])))
            (.region [⟨some 34, none, .ex (.ibin .add) [.s 27, .k (.int .i64 1)]⟩,
              ⟨some 27, none, .ex (.mov) [.s 34]⟩])))))))
      (.seq
       (.region [⟨some 35, none, .ex (.mov) [.s 6]⟩,
         ⟨some 2, none, .ex (.mov) [.s 35]⟩])
       .ret)))))),
 [.t 2]⟩
theorem c107 : compFn Go.Proofs.Tryz.prog 107 = some fn107 := by kernel_rfl

/-- (*rubric/normal.Maker).gap -/
def fn108 : AFn := ⟨23,
 (.seq
  (.region [⟨some 2, none, .ex (.mov) [.k .nils]⟩])
  (.seq
   (.region [⟨some 4, none, .ex (.mov) [.s 0]⟩,
     ⟨some 5, none, .ex (.nilck) [.s 4]⟩,
     ⟨some 6, none, .ex (.fa 1) [.s 5]⟩,
     ⟨some 7, none, .ex (.ld 1) [.s 6]⟩,
     ⟨some 8, none, .callf 50 [.s 7]⟩,
     ⟨some 3, none, .ex (.mov) [.s 8]⟩])
   (.seq
    (.seq
     (.region [⟨some 9, none, .ex (.mov) [.s 0]⟩,
       ⟨some 10, none, .ex (.nilck) [.s 9]⟩,
       ⟨some 11, none, .ex (.fa 2) [.s 10]⟩,
       ⟨some 12, none, .ex (.ld 1) [.s 11]⟩,
       ⟨some 13, none, .ex (.ibin .gtr) [.s 12, .k (.int .i64 0)]⟩])
     (.cond (.s 13)
      (.region [⟨some 14, none, .ex (.mov) [.s 3]⟩,
        ⟨some 15, none, .ex (.mov) [.s 0]⟩,
        ⟨some 16, none, .ex (.nilck) [.s 15]⟩,
        ⟨some 17, none, .ex (.fa 2) [.s 16]⟩,
        ⟨some 18, none, .ex (.ld 1) [.s 17]⟩,
        ⟨some 19, none, .ex (.build [(.int .u8 0), (.int .i64 0), .nils, .nils, .nils] [(0, 1), (1, 1)]) [.k (.int .u8 3), .s 18]⟩,
        ⟨some 20, none, .ex (.bsl 5 1 [(.int .u8 0), (.int .i64 0), .nils, .nils, .nils] [(0, 5)]) [.s 19]⟩,
        ⟨some 21, none, .ex (.app 5 88) [.s 14, .s 20]⟩,
        ⟨some 3, none, .ex (.mov) [.s 21]⟩])
      .skip))
    (.seq
     (.region [⟨some 22, none, .ex (.mov) [.s 3]⟩,
       ⟨some 2, none, .ex (.mov) [.s 22]⟩])
     .ret)))),
 [.t 2]⟩
theorem c108 : compFn Go.Proofs.Tryz.prog 108 = some fn108 := by kernel_rfl

/-- rubric/ops.size -/
def fn109 : AFn := ⟨11,
 (.seq
  (.region [⟨some 1, none, .ex (.box) [.s 0]⟩,
    ⟨some 2, none, .ex (.mov) [.k (.int .i64 0)]⟩])
  (.seq
   (.seq
    (.region [⟨some 3, none, .ex (.fa 0) [.s 1]⟩,
      ⟨some 4, none, .ex (.ld 1) [.s 3]⟩,
      ⟨some 5, none, .ex (.ibin .eql) [.s 4, .k (.int .u8 2)]⟩])
    (.cond (.s 5)
     (.seq
      (.region [⟨some 6, none, .ex (.fa 2) [.s 1]⟩,
        ⟨some 7, none, .ex (.ld 1) [.s 6]⟩,
        ⟨some 8, none, .ex (.len) [.s 7]⟩,
        ⟨some 2, none, .ex (.mov) [.s 8]⟩])
      .ret)
     .skip))
   (.seq
    (.region [⟨some 9, none, .ex (.fa 1) [.s 1]⟩,
      ⟨some 10, none, .ex (.ld 1) [.s 9]⟩,
      ⟨some 2, none, .ex (.mov) [.s 10]⟩])
    .ret))),
 [.t 2]⟩
theorem c109 : compFn Go.Proofs.Tryz.prog 109 = some fn109 := by kernel_rfl

/-- rubric/ops.one -/
def fn119 : AFn := ⟨30,
 (.seq
  (.region [⟨some 3, none, .ex (.box) [.s 1]⟩,
    ⟨some 4, none, .ex (.mov) [.k (.int .i64 0)]⟩])
  (.seq
   (.seq
    (.region [⟨some 6, none, .ex (.lda 5) [.s 3]⟩,
      ⟨some 7, none, .callf 127 [.s 6]⟩,
      ⟨some 8, none, .ex (.bnot) [.s 7]⟩,
      ⟨some 9, none, .ex (.mov) [.s 8]⟩,
      ⟨some 10, some (9, false), .ex (.lda 5) [.s 3]⟩,
      ⟨some 11, some (9, false), .callf 109 [.s 10]⟩,
      ⟨some 12, some (9, false), .ex (.ibin .lss) [.s 11, .k (.int .i64 1)]⟩,
      ⟨some 13, none, .ex (.pick) [.s 9, .k (.bool true), .s 12]⟩,
      ⟨some 14, none, .ex (.mov) [.s 13]⟩,
      ⟨some 15, some (14, false), .ex (.lda 5) [.s 3]⟩,
      ⟨some 16, some (14, false), .callf 109 [.s 15]⟩,
      ⟨some 17, some (14, false), .ex (.ibin .gtr) [.s 16, .k (.int .i64 536870912)]⟩,
      ⟨some 18, none, .ex (.pick) [.s 14, .k (.bool true), .s 17]⟩])
    (.cond (.s 18)
     (.seq
      (.region [⟨some 4, none, .ex (.mov) [.k (.int .i64 3)]⟩])
      .ret)
     .skip))
   (.seq
    (.seq
     (.region [⟨some 19, none, .ex (.mov) [.s 0]⟩,
       ⟨some 20, none, .ex (.fa 3) [.s 3]⟩,
       ⟨some 21, none, .ex (.ld 1) [.s 20]⟩,
       ⟨some 22, none, .callf 128 [.s 19, .s 21]⟩,
       ⟨some 5, none, .ex (.mov) [.s 22]⟩])
     (.seq
      (.region [⟨some 23, none, .ex (.mov) [.s 5]⟩,
        ⟨some 24, none, .ex (.ibin .neq) [.s 23, .k (.int .i64 0)]⟩])
      (.cond (.s 24)
       (.seq
        (.region [⟨some 25, none, .ex (.mov) [.s 5]⟩,
          ⟨some 4, none, .ex (.mov) [.s 25]⟩])
        .ret)
       .skip)))
    (.seq
     (.region [⟨some 26, none, .ex (.mov) [.s 0]⟩,
       ⟨some 27, none, .ex (.fa 4) [.s 3]⟩,
       ⟨some 28, none, .ex (.ld 1) [.s 27]⟩,
       ⟨some 29, none, .callf 129 [.s 26, .s 28]⟩,
       ⟨some 4, none, .ex (.mov) [.s 29]⟩])
     .ret)))),
 [.t 4]⟩
theorem c119 : compFn Go.Proofs.Tryz.prog 119 = some fn119 := by kernel_rfl

/-- rubric/patch.Same -/
def fn120 : AFn := ⟨8,
 (.seq
  (.region [⟨some 4, none, .ex (.mov) [.k (.bool false)]⟩])
  (.seq
   (.region [⟨some 5, none, .ex (.mov) [.s 0]⟩,
     ⟨some 6, none, .ex (.mov) [.s 1]⟩,
     ⟨some 7, none, .callf 130 [.s 5, .s 6]⟩,
     ⟨some 4, none, .ex (.mov) [.s 7]⟩])
   .ret)),
 [.t 4]⟩
theorem c120 : compFn Go.Proofs.Tryz.prog 120 = some fn120 := by kernel_rfl

/-- rubric/attrs.Same -/
def fn121 : AFn := ⟨8,
 (.seq
  (.region [⟨some 4, none, .ex (.mov) [.k (.bool false)]⟩])
  (.seq
   (.region [⟨some 5, none, .ex (.mov) [.s 0]⟩,
     ⟨some 6, none, .ex (.mov) [.s 1]⟩,
     ⟨some 7, none, .callf 131 [.s 5, .s 6]⟩,
     ⟨some 4, none, .ex (.mov) [.s 7]⟩])
   .ret)),
 [.t 4]⟩
theorem c121 : compFn Go.Proofs.Tryz.prog 121 = some fn121 := by kernel_rfl

/-- rubric/patch.Apply -/
def fn122 : AFn := ⟨76,
 (.seq
  (.region [⟨some 4, none, .ex (.mov) [.k .nils]⟩])
  (.scope
   (.seq
    (.region [⟨some 5, none, .ex (.mov) [.k .nils]⟩])
    (.seq
     (.region [⟨some 6, none, .ex (.mov) [.k (.int .i64 0)]⟩])
     (.seq
      .skip
      (.seq
       (.seq
        (.region [⟨some 9, none, .ex (.mov) [.s 1]⟩,
          ⟨some 10, none, .ex (.len) [.s 9]⟩,
          ⟨some 11, none, .ex (.mov) [.k (.int .i64 0)]⟩])
        (.block 0
         (.loop
          (.seq
           (.region [⟨some 12, none, .ex (.ibin .lss) [.s 11, .s 10]⟩])
           (.seq
            (.cond (.s 12)
             .skip
             (.exit 0))
            (.seq
             (.block 1
              (.seq
               (.region [⟨some 13, none, .ex (.ia 6) [.s 9, .s 11]⟩,
                 ⟨some 14, none, .ex (.lda 6) [.s 13]⟩,
                 ⟨some 8, none, .ex (.alloc [(.int .i64 0), (.bool false), (.int .u8 0), (.int .i64 0), (.int .u64 0), (.str ⟨#[]⟩)]) []⟩,
                 ⟨none, none, .ex (.st 6) [.s 8, .s 14]⟩])
               (.seq
                (.block 2
                 (.loop
                  (.seq
                   (.seq
                    (.region [⟨some 15, none, .ex (.mov) [.s 6]⟩,
                      ⟨some 16, none, .ex (.mov) [.s 0]⟩,
                      ⟨some 17, none, .ex (.len) [.s 16]⟩,
                      ⟨some 18, none, .ex (.ibin .lss) [.s 15, .s 17]⟩])
                    (.cond (.s 18)
                     .skip
                     (.exit 2)))
                   (.seq
                    (.block 3
                     (.seq
                      (.block 4
                       (.seq
                        (.draw (.op ⟨some 22, none, .ex (.mov) [.s 0]⟩ (.op ⟨some 23, none, .ex (.mov) [.s 6]⟩ (.op ⟨some 24, none, .ex (.ia 5) [.s 22, .s 23]⟩ (.op ⟨some 25, none, .ex (.fa 0) [.s 24]⟩ (.op ⟨some 26, none, .ex (.ld 1) [.s 25]⟩ (.op ⟨some 27, none, .ex (.fa 0) [.s 8]⟩ (.op ⟨some 28, none, .ex (.ld 1) [.s 27]⟩ (.op ⟨some 29, none, .ex (.ibin .lss) [.s 26, .s 28]⟩ (.op ⟨some 21, none, .ex (.mov) [.s 29]⟩ .done))))))))))
                        (.cond (.s 21)
                         (.seq
                          (.region [⟨some 30, none, .ex (.mov) [.s 5]⟩,
                            ⟨some 31, none, .ex (.mov) [.s 0]⟩,
                            ⟨some 32, none, .ex (.mov) [.s 6]⟩,
                            ⟨some 33, none, .ex (.ia 5) [.s 31, .s 32]⟩,
                            ⟨some 34, none, .ex (.lda 5) [.s 33]⟩,
                            ⟨some 35, none, .ex (.bsl 5 1 [(.int .i64 0), (.int .u8 0), (.int .i64 0), (.int .u64 0), (.str ⟨#[]⟩)] [(0, 5)]) [.s 34]⟩,
                            ⟨some 36, none, .ex (.app 5 48) [.s 30, .s 35]⟩,
                            ⟨some 5, none, .ex (.mov) [.s 36]⟩])
                          (.exit 3))
                         (.seq
                          (.draw (.op ⟨some 38, none, .ex (.mov) [.s 0]⟩ (.op ⟨some 39, none, .ex (.mov) [.s 6]⟩ (.op ⟨some 40, none, .ex (.ia 5) [.s 38, .s 39]⟩ (.op ⟨some 41, none, .ex (.fa 0) [.s 40]⟩ (.op ⟨some 42, none, .ex (.ld 1) [.s 41]⟩ (.op ⟨some 43, none, .ex (.fa 0) [.s 8]⟩ (.op ⟨some 44, none, .ex (.ld 1) [.s 43]⟩ (.op ⟨some 45, none, .ex (.ibin .eql) [.s 42, .s 44]⟩ (.op ⟨some 37, none, .ex (.mov) [.s 45]⟩ .done))))))))))
                          (.cond (.s 37)
                           (.region [⟨some 46, none, .ex (.mov) [.s 6]⟩,
                             ⟨some 47, none, .ex (.ibin .add) [.s 46, .k (.int .i64 1)]⟩,
                             ⟨some 6, none, .ex (.mov) [.s 47]⟩])
                           .skip)))))
                      (.seq
                       (.seq
                        (.region [⟨some 48, none, .ex (.fa 1) [.s 8]⟩,
                          ⟨some 49, none, .ex (.ld 1) [.s 48]⟩,
                          ⟨some 50, none, .ex (.bnot) [.s 49]⟩])
                        (.cond (.s 50)
                         (.region [⟨some 51, none, .ex (.mov) [.s 5]⟩,
                           ⟨some 52, none, .ex (.fa 0) [.s 8]⟩,
                           ⟨some 53, none, .ex (.ld 1) [.s 52]⟩,
                           ⟨some 54, none, .ex (.fa 2) [.s 8]⟩,
                           ⟨some 55, none, .ex (.lda 4) [.s 54]⟩,
                           ⟨some 56, none, .ex (.build [(.int .i64 0), (.int .u8 0), (.int .i64 0), (.int .u64 0), (.str ⟨#[]⟩)] [(0, 1), (1, 4)]) [.s 53, .s 55]⟩,
                           ⟨some 57, none, .ex (.bsl 5 1 [(.int .i64 0), (.int .u8 0), (.int .i64 0), (.int .u64 0), (.str ⟨#[]⟩)] [(0, 5)]) [.s 56]⟩,
                           ⟨some 58, none, .ex (.app 5 48) [.s 51, .s 57]⟩,
                           ⟨some 5, none, .ex (.mov) [.s 58]⟩])
                         .skip))
                       (.exit 1))))
                    (.region [⟨some 19, none, .ex (.mov) [.s 6]⟩,
                      ⟨some 20, none, .ex (.ibin .add) [.s 19, .k (.int .i64 1)]⟩,
                      ⟨some 6, none, .ex (.mov) [.s 20]⟩])))))
                (.seq
                 (.region [⟨some 59, none, .ex (.fa 1) [.s 8]⟩,
                   ⟨some 60, none, .ex (.ld 1) [.s 59]⟩,
                   ⟨some 61, none, .ex (.bnot) [.s 60]⟩])
                 (.cond (.s 61)
                  (.region [⟨some 62, none, .ex (.mov) [.s 5]⟩,
                    ⟨some 63, none, .ex (.fa 0) [.s 8]⟩,
                    ⟨some 64, none, .ex (.ld 1) [.s 63]⟩,
                    ⟨some 65, none, .ex (.fa 2) [.s 8]⟩,
                    ⟨some 66, none, .ex (.lda 4) [.s 65]⟩,
                    ⟨some 67, none, .ex (.build [(.int .i64 0), (.int .u8 0), (.int .i64 0), (.int .u64 0), (.str ⟨#[]⟩)] [(0, 1), (1, 4)]) [.s 64, .s 66]⟩,
                    ⟨some 68, none, .ex (.bsl 5 1 [(.int .i64 0), (.int .u8 0), (.int .i64 0), (.int .u64 0), (.str ⟨#[]⟩)] [(0, 5)]) [.s 67]⟩,
                    ⟨some 69, none, .ex (.app 5 48) [.s 62, .s 68]⟩,
                    ⟨some 5, none, .ex (.mov) [.s 69]⟩])
                  .skip)))))
             (.region [⟨some 70, none, .ex (.ibin .add) [.s 11, .k (.int .i64 1)]⟩,
               ⟨some 11, none, .ex (.mov) [.s 70]⟩])))))))
       (.seq
        (.region [⟨some 71, none, .ex (.mov) [.s 5]⟩,
          ⟨some 72, none, .ex (.mov) [.s 0]⟩,
          ⟨some 73, none, .ex (.mov) [.s 6]⟩,
          ⟨some 74, none, .ex (.slc 5 true false false) [.s 72, .s 73]⟩,
          ⟨some 75, none, .ex (.app 5 48) [.s 71, .s 74]⟩,
          ⟨some 4, none, .ex (.mov) [.s 75]⟩])
        .ret))))))),
 [.t 4]⟩
theorem c122 : compFn Go.Proofs.Tryz.prog 122 = some fn122 := by kernel_rfl

/-- rubric/patch.Part -/
def fn123 : AFn := ⟨11,
 (.seq
  (.region [⟨some 3, none, .ex (.box) [.s 0]⟩,
    ⟨some 5, none, .ex (.box) [.s 2]⟩,
    ⟨some 6, none, .ex (.mov) [.k .nils]⟩])
  (.seq
   (.region [⟨some 7, none, .ex (.mov) [.s 1]⟩,
     ⟨some 8, none, .callf 73 [.s 7]⟩,
     ⟨some 9, none, .ex (.mkfn (.func 133) 0) [.s 3, .s 5]⟩,
     ⟨some 10, none, .callf 132 [.s 8, .s 9]⟩,
     ⟨some 6, none, .ex (.mov) [.s 10]⟩])
   .ret)),
 [.t 6]⟩
theorem c123 : compFn Go.Proofs.Tryz.prog 123 = some fn123 := by kernel_rfl

/-- slices.Grow[[]rubric/api.Op,rubric/api.Op] -/
def fn124 : AFn := ⟨27,
 (.seq
  (.region [⟨some 4, none, .ex (.mov) [.k .nils]⟩])
  (.seq
   (.seq
    (.region [⟨some 5, none, .ex (.mov) [.s 1]⟩,
      ⟨some 6, none, .ex (.ibin .lss) [.s 5, .k (.int .i64 0)]⟩])
    (.cond (.s 6)
     (.region [⟨some 7, none, .bad⟩,
       ⟨none, none, .bad⟩])
     .skip))
   (.seq
    (.seq
     (.region [⟨some 8, none, .ex (.mov) [.s 1]⟩,
       ⟨some 9, none, .ex (.mov) [.s 0]⟩,
       ⟨some 10, none, .ex (.cap) [.s 9]⟩,
       ⟨some 11, none, .ex (.mov) [.s 0]⟩,
       ⟨some 12, none, .ex (.len) [.s 11]⟩,
       ⟨some 13, none, .ex (.ibin .sub) [.s 10, .s 12]⟩,
       ⟨some 14, none, .ex (.ibin .sub) [.s 8, .s 13]⟩,
       ⟨some 1, none, .ex (.mov) [.s 14]⟩])
     (.seq
      (.region [⟨some 15, none, .ex (.mov) [.s 1]⟩,
        ⟨some 16, none, .ex (.ibin .gtr) [.s 15, .k (.int .i64 0)]⟩])
      (.cond (.s 16)
       (.region [⟨some 17, none, .ex (.mov) [.s 0]⟩,
         ⟨some 18, none, .ex (.mov) [.s 0]⟩,
         ⟨some 19, none, .ex (.cap) [.s 18]⟩,
         ⟨some 20, none, .ex (.slc 5 false true false) [.s 17, .s 19]⟩,
         ⟨some 21, none, .ex (.mov) [.s 1]⟩,
         ⟨some 22, none, .ex (.appz 5 88 [(.int .u8 0), (.int .i64 0), .nils, .nils, .nils]) [.s 20, .s 21]⟩,
         ⟨some 23, none, .ex (.mov) [.s 0]⟩,
         ⟨some 24, none, .ex (.len) [.s 23]⟩,
         ⟨some 25, none, .ex (.slc 5 false true false) [.s 22, .s 24]⟩,
         ⟨some 0, none, .ex (.mov) [.s 25]⟩])
       .skip)))
    (.seq
     (.region [⟨some 26, none, .ex (.mov) [.s 0]⟩,
       ⟨some 4, none, .ex (.mov) [.s 26]⟩])
     .ret)))),
 [.t 4]⟩
theorem c124 : compFn Go.Proofs.Tryz.prog 124 = some fn124 := by kernel_rfl

/-- rubric/ops.form -/
def fn127 : AFn := ⟨47,
 (.seq
  (.region [⟨some 1, none, .ex (.box) [.s 0]⟩,
    ⟨some 2, none, .ex (.mov) [.k (.bool false)]⟩])
  (.seq
   (.region [⟨some 4, none, .ex (.fa 2) [.s 1]⟩,
     ⟨some 5, none, .ex (.ld 1) [.s 4]⟩,
     ⟨some 6, none, .ex (.len) [.s 5]⟩,
     ⟨some 7, none, .ex (.ibin .gtr) [.s 6, .k (.int .i64 0)]⟩,
     ⟨some 8, none, .ex (.mov) [.s 7]⟩,
     ⟨some 9, some (8, false), .ex (.fa 3) [.s 1]⟩,
     ⟨some 10, some (8, false), .ex (.ld 1) [.s 9]⟩,
     ⟨some 11, some (8, false), .ex (.len) [.s 10]⟩,
     ⟨some 12, some (8, false), .ex (.ibin .gtr) [.s 11, .k (.int .i64 0)]⟩,
     ⟨some 13, none, .ex (.pick) [.s 8, .k (.bool true), .s 12]⟩,
     ⟨some 3, none, .ex (.mov) [.s 13]⟩])
   (.seq
    (.seq
     (.region [⟨some 14, none, .ex (.fa 0) [.s 1]⟩,
       ⟨some 15, none, .ex (.ld 1) [.s 14]⟩])
     (.block 0
      (.seq
       (.region [⟨some 17, none, .ex (.ibin .eql) [.s 15, .k (.int .u8 1)]⟩,
         ⟨some 16, none, .ex (.mov) [.s 17]⟩])
       (.cond (.s 16)
        (.seq
         (.region [⟨some 18, none, .ex (.mov) [.s 3]⟩,
           ⟨some 19, none, .ex (.bnot) [.s 18]⟩,
           ⟨some 2, none, .ex (.mov) [.s 19]⟩])
         .ret)
        (.seq
         (.region [⟨some 21, none, .ex (.ibin .eql) [.s 15, .k (.int .u8 3)]⟩,
           ⟨some 20, none, .ex (.mov) [.s 21]⟩])
         (.cond (.s 20)
          (.seq
           (.region [⟨some 22, none, .ex (.mov) [.s 3]⟩,
             ⟨some 23, none, .ex (.bnot) [.s 22]⟩,
             ⟨some 24, none, .ex (.mov) [.s 23]⟩,
             ⟨some 25, some (24, true), .ex (.fa 4) [.s 1]⟩,
             ⟨some 26, some (24, true), .ex (.ld 1) [.s 25]⟩,
             ⟨some 27, some (24, true), .ex (.len) [.s 26]⟩,
             ⟨some 28, some (24, true), .ex (.ibin .eql) [.s 27, .k (.int .i64 0)]⟩,
             ⟨some 29, none, .ex (.pick) [.s 24, .s 28, .k (.bool false)]⟩,
             ⟨some 2, none, .ex (.mov) [.s 29]⟩])
           .ret)
          (.seq
           (.region [⟨some 31, none, .ex (.ibin .eql) [.s 15, .k (.int .u8 2)]⟩,
             ⟨some 30, none, .ex (.mov) [.s 31]⟩])
           (.cond (.s 30)
            (.seq
             (.region [⟨some 32, none, .ex (.fa 1) [.s 1]⟩,
               ⟨some 33, none, .ex (.ld 1) [.s 32]⟩,
               ⟨some 34, none, .ex (.ibin .eql) [.s 33, .k (.int .i64 0)]⟩,
               ⟨some 35, none, .ex (.mov) [.s 34]⟩,
               ⟨some 36, some (35, true), .ex (.fa 4) [.s 1]⟩,
               ⟨some 37, some (35, true), .ex (.ld 1) [.s 36]⟩,
               ⟨some 38, some (35, true), .ex (.len) [.s 37]⟩,
               ⟨some 39, some (35, true), .ex (.ibin .eql) [.s 38, .k (.int .i64 0)]⟩,
               ⟨some 40, none, .ex (.pick) [.s 35, .s 39, .k (.bool false)]⟩,
               ⟨some 41, none, .ex (.mov) [.s 40]⟩,
               ⟨some 42, some (41, true), .ex (.fa 2) [.s 1]⟩,
               ⟨some 43, some (41, true), .ex (.ld 1) [.s 42]⟩,
               ⟨some 44, some (41, true), .callf 136 [.s 43, .k (.fn (.func 137) [] [])]⟩,
               ⟨some 45, some (41, true), .ex (.bnot) [.s 44]⟩,
               ⟨some 46, none, .ex (.pick) [.s 41, .s 45, .k (.bool false)]⟩,
               ⟨some 2, none, .ex (.mov) [.s 46]⟩])
             .ret)
            .skip))))))))
    (.seq
     (.region [⟨some 2, none, .ex (.mov) [.k (.bool false)]⟩])
     .ret)))),
 [.t 2]⟩
theorem c127 : compFn Go.Proofs.Tryz.prog 127 = some fn127 := by kernel_rfl

/-- rubric/attrs.May -/
def fn128 : AFn := ⟨48,
 (.seq
  (.region [⟨some 4, none, .ex (.mov) [.k (.int .i64 0)]⟩])
  (.seq
   (.seq
    (.region [⟨some 8, none, .ex (.mov) [.s 1]⟩,
      ⟨some 9, none, .ex (.len) [.s 8]⟩,
      ⟨some 10, none, .ex (.ibin .gtr) [.s 9, .k (.int .i64 64)]⟩])
    (.cond (.s 10)
     (.seq
      (.region [⟨some 4, none, .ex (.mov) [.k (.int .i64 3)]⟩])
      .ret)
     .skip))
   (.seq
    (.region [⟨some 5, none, .ex (.mov) [.k (.int .i64 0)]⟩])
    (.seq
     (.seq
      (.region [⟨some 11, none, .ex (.mov) [.s 1]⟩,
        ⟨some 12, none, .ex (.len) [.s 11]⟩,
        ⟨some 13, none, .ex (.mov) [.k (.int .i64 0)]⟩])
      (.block 0
       (.loop
        (.seq
         (.region [⟨some 14, none, .ex (.ibin .lss) [.s 13, .s 12]⟩])
         (.seq
          (.cond (.s 14)
           .skip
           (.exit 0))
          (.seq
           (.block 1
            (.seq
             (.region [⟨some 15, none, .ex (.mov) [.s 13]⟩,
               ⟨some 16, none, .ex (.ia 5) [.s 11, .s 13]⟩,
               ⟨some 17, none, .ex (.lda 5) [.s 16]⟩,
               ⟨some 7, none, .ex (.alloc [(.int .i64 0), (.int .u8 0), (.int .i64 0), (.int .u64 0), (.str ⟨#[]⟩)]) []⟩,
               ⟨some 6, none, .ex (.mov) [.s 15]⟩,
               ⟨none, none, .ex (.st 5) [.s 7, .s 17]⟩])
             (.block 2
              (.seq
               (.draw (.op ⟨some 19, none, .ex (.mov) [.s 6]⟩ (.op ⟨some 20, none, .ex (.ibin .gtr) [.s 19, .k (.int .i64 0)]⟩ (.op ⟨some 21, none, .ex (.mov) [.s 20]⟩ (.op ⟨some 22, some (21, true), .ex (.mov) [.s 1]⟩ (.op ⟨some 23, some (21, true), .ex (.mov) [.s 6]⟩ (.op ⟨some 24, some (21, true), .ex (.ibin .sub) [.s 23, .k (.int .i64 1)]⟩ (.op ⟨some 25, some (21, true), .ex (.ia 5) [.s 22, .s 24]⟩ (.op ⟨some 26, some (21, true), .ex (.fa 0) [.s 25]⟩ (.op ⟨some 27, some (21, true), .ex (.ld 1) [.s 26]⟩ (.op ⟨some 28, some (21, true), .ex (.fa 0) [.s 7]⟩ (.op ⟨some 29, some (21, true), .ex (.ld 1) [.s 28]⟩ (.op ⟨some 30, some (21, true), .ex (.ibin .geq) [.s 27, .s 29]⟩ (.op ⟨some 31, none, .ex (.pick) [.s 21, .s 30, .k (.bool false)]⟩ (.op ⟨some 32, none, .ex (.mov) [.s 31]⟩ (.op ⟨some 33, some (32, false), .ex (.fa 1) [.s 7]⟩ (.op ⟨some 34, some (32, false), .ex (.lda 4) [.s 33]⟩ (.op ⟨some 35, some (32, false), .callf 139 [.s 34]⟩ (.op ⟨some 36, some (32, false), .ex (.bnot) [.s 35]⟩ (.op ⟨some 37, none, .ex (.pick) [.s 32, .k (.bool true), .s 36]⟩ (.op ⟨some 18, none, .ex (.mov) [.s 37]⟩ .done)))))))))))))))))))))
               (.cond (.s 18)
                (.seq
                 (.region [⟨some 4, none, .ex (.mov) [.k (.int .i64 3)]⟩])
                 .ret)
                (.seq
                 (.region [⟨some 39, none, .ex (.mov) [.s 0]⟩,
                   ⟨some 40, none, .ex (.fa 0) [.s 7]⟩,
                   ⟨some 41, none, .ex (.ld 1) [.s 40]⟩,
                   ⟨some 42, none, .ex (.fa 1) [.s 7]⟩,
                   ⟨some 43, none, .ex (.lda 4) [.s 42]⟩,
                   ⟨some 44, none, .callf 140 [.s 39, .s 41, .s 43]⟩,
                   ⟨some 45, none, .ex (.bnot) [.s 44]⟩,
                   ⟨some 38, none, .ex (.mov) [.s 45]⟩])
                 (.cond (.s 38)
                  (.region [⟨some 5, none, .ex (.mov) [.k (.int .i64 4)]⟩])
                  .skip)))))))
           (.region [⟨some 46, none, .ex (.ibin .add) [.s 13, .k (.int .i64 1)]⟩,
             ⟨some 13, none, .ex (.mov) [.s 46]⟩])))))))
     (.seq
      (.region [⟨some 47, none, .ex (.mov) [.s 5]⟩,
        ⟨some 4, none, .ex (.mov) [.s 47]⟩])
      .ret))))),
 [.t 4]⟩
theorem c128 : compFn Go.Proofs.Tryz.prog 128 = some fn128 := by kernel_rfl

/-- rubric/patch.May -/
def fn129 : AFn := ⟨77,
 (.seq
  (.region [⟨some 4, none, .ex (.mov) [.k (.int .i64 0)]⟩])
  (.seq
   (.seq
    (.region [⟨some 10, none, .ex (.mov) [.s 1]⟩,
      ⟨some 11, none, .ex (.len) [.s 10]⟩,
      ⟨some 12, none, .ex (.ibin .gtr) [.s 11, .k (.int .i64 64)]⟩])
    (.cond (.s 12)
     (.seq
      (.region [⟨some 4, none, .ex (.mov) [.k (.int .i64 3)]⟩])
      .ret)
     .skip))
   (.seq
    (.region [⟨some 5, none, .ex (.mov) [.k (.int .i64 0)]⟩])
    (.seq
     (.seq
      (.region [⟨some 13, none, .ex (.mov) [.s 1]⟩,
        ⟨some 14, none, .ex (.len) [.s 13]⟩,
        ⟨some 15, none, .ex (.mov) [.k (.int .i64 0)]⟩])
      (.block 0
       (.loop
        (.seq
         (.region [⟨some 16, none, .ex (.ibin .lss) [.s 15, .s 14]⟩])
         (.seq
          (.cond (.s 16)
           .skip
           (.exit 0))
          (.seq
           (.block 1
            (.seq
             (.region [⟨some 17, none, .ex (.mov) [.s 15]⟩,
               ⟨some 18, none, .ex (.ia 6) [.s 13, .s 15]⟩,
               ⟨some 19, none, .ex (.lda 6) [.s 18]⟩,
               ⟨some 7, none, .ex (.alloc [(.int .i64 0), (.bool false), (.int .u8 0), (.int .i64 0), (.int .u64 0), (.str ⟨#[]⟩)]) []⟩,
               ⟨some 6, none, .ex (.mov) [.s 17]⟩,
               ⟨none, none, .ex (.st 6) [.s 7, .s 19]⟩])
             (.seq
              (.region [⟨some 21, none, .ex (.mov) [.s 0]⟩,
                ⟨some 22, none, .ex (.fa 0) [.s 7]⟩,
                ⟨some 23, none, .ex (.ld 1) [.s 22]⟩,
                ⟨some 24, none, .callf 134 [.s 21, .s 23]⟩,
                ⟨some 20, none, .ex (.mov) [.s 24]⟩,
                ⟨some 25, none, .ex (.ext 0) [.s 20]⟩,
                ⟨some 26, none, .ex (.ext 1) [.s 20]⟩,
                ⟨some 8, none, .ex (.alloc [(.int .i64 0), (.bool false), (.int .u8 0), (.bool false), (.bool false), (.int .i64 0)]) []⟩,
                ⟨none, none, .ex (.st 6) [.s 8, .s 25]⟩,
                ⟨some 9, none, .ex (.mov) [.s 26]⟩])
              (.block 2
               (.seq
                (.seq
                 (.draw (.op ⟨some 28, none, .ex (.mov) [.s 6]⟩ (.op ⟨some 29, none, .ex (.ibin .gtr) [.s 28, .k (.int .i64 0)]⟩ (.op ⟨some 30, none, .ex (.mov) [.s 29]⟩ (.op ⟨some 31, some (30, true), .ex (.mov) [.s 1]⟩ (.op ⟨some 32, some (30, true), .ex (.mov) [.s 6]⟩ (.op ⟨some 33, some (30, true), .ex (.ibin .sub) [.s 32, .k (.int .i64 1)]⟩ (.op ⟨some 34, some (30, true), .ex (.ia 6) [.s 31, .s 33]⟩ (.op ⟨some 35, some (30, true), .ex (.fa 0) [.s 34]⟩ (.op ⟨some 36, some (30, true), .ex (.ld 1) [.s 35]⟩ (.op ⟨some 37, some (30, true), .ex (.fa 0) [.s 7]⟩ (.op ⟨some 38, some (30, true), .ex (.ld 1) [.s 37]⟩ (.op ⟨some 39, some (30, true), .ex (.ibin .geq) [.s 36, .s 38]⟩ (.op ⟨some 40, none, .ex (.pick) [.s 30, .s 39, .k (.bool false)]⟩ (.op ⟨some 27, none, .ex (.mov) [.s 40]⟩ .done)))))))))))))))
                 (.cond (.s 27)
                  .skip
                  (.seq
                   (.region [⟨some 41, none, .ex (.fa 1) [.s 7]⟩,
                     ⟨some 42, none, .ex (.ld 1) [.s 41]⟩,
                     ⟨some 43, none, .ex (.mov) [.s 42]⟩,
                     ⟨some 44, some (43, true), .ex (.fa 2) [.s 7]⟩,
                     ⟨some 45, some (43, true), .ex (.lda 4) [.s 44]⟩,
                     ⟨some 46, some (43, true), .ex (.build [(.int .u8 0), (.int .i64 0), (.int .u64 0), (.str ⟨#[]⟩)] []) []⟩,
                     ⟨some 47, some (43, true), .ex (.eqagg true [0, 0, 0, 2]) [.s 45, .s 46]⟩,
                     ⟨some 48, none, .ex (.pick) [.s 43, .s 47, .k (.bool false)]⟩,
                     ⟨some 27, none, .ex (.mov) [.s 48]⟩])
                   (.cond (.s 27)
                    .skip
                    (.region [⟨some 49, none, .ex (.fa 1) [.s 7]⟩,
                      ⟨some 50, none, .ex (.ld 1) [.s 49]⟩,
                      ⟨some 51, none, .ex (.bnot) [.s 50]⟩,
                      ⟨some 52, none, .ex (.mov) [.s 51]⟩,
                      ⟨some 53, some (52, true), .ex (.fa 2) [.s 7]⟩,
                      ⟨some 54, some (52, true), .ex (.lda 4) [.s 53]⟩,
                      ⟨some 55, some (52, true), .callf 139 [.s 54]⟩,
                      ⟨some 56, some (52, true), .ex (.bnot) [.s 55]⟩,
                      ⟨some 57, none, .ex (.pick) [.s 52, .s 56, .k (.bool false)]⟩,
                      ⟨some 27, none, .ex (.mov) [.s 57]⟩])))))
                (.cond (.s 27)
                 (.seq
                  (.region [⟨some 4, none, .ex (.mov) [.k (.int .i64 3)]⟩])
                  .ret)
                 (.seq
                  (.region [⟨some 59, none, .ex (.mov) [.s 9]⟩,
                    ⟨some 60, none, .ex (.bnot) [.s 59]⟩,
                    ⟨some 61, none, .ex (.mov) [.s 60]⟩,
                    ⟨some 62, some (61, false), .ex (.fa 1) [.s 7]⟩,
                    ⟨some 63, some (61, false), .ex (.ld 1) [.s 62]⟩,
                    ⟨some 64, some (61, false), .ex (.bnot) [.s 63]⟩,
                    ⟨some 65, some (61, false), .ex (.mov) [.s 64]⟩,
                    ⟨some 66, some (65, true), .ex (.mov) [.s 0]⟩,
                    ⟨some 67, some (65, true), .ex (.fa 0) [.s 7]⟩,
                    ⟨some 68, some (65, true), .ex (.ld 1) [.s 67]⟩,
                    ⟨some 69, some (65, true), .ex (.fa 2) [.s 7]⟩,
                    ⟨some 70, some (65, true), .ex (.lda 4) [.s 69]⟩,
                    ⟨some 71, some (65, true), .callf 140 [.s 66, .s 68, .s 70]⟩,
                    ⟨some 72, some (65, true), .ex (.bnot) [.s 71]⟩,
                    ⟨some 73, some (61, false), .ex (.pick) [.s 65, .s 72, .k (.bool false)]⟩,
                    ⟨some 74, none, .ex (.pick) [.s 61, .k (.bool true), .s 73]⟩,
                    ⟨some 58, none, .ex (.mov) [.s 74]⟩])
                  (.cond (.s 58)
                   (.region [⟨some 5, none, .ex (.mov) [.k (.int .i64 4)]⟩])
                   .skip))))))))
           (.region [⟨some 75, none, .ex (.ibin .add) [.s 15, .k (.int .i64 1)]⟩,
             ⟨some 15, none, .ex (.mov) [.s 75]⟩])))))))
     (.seq
      (.region [⟨some 76, none, .ex (.mov) [.s 5]⟩,
        ⟨some 4, none, .ex (.mov) [.s 76]⟩])
      .ret))))),
 [.t 4]⟩
theorem c129 : compFn Go.Proofs.Tryz.prog 129 = some fn129 := by kernel_rfl

/-- slices.Equal[[]rubric/api.Change,rubric/api.Change] -/
def fn130 : AFn := ⟨26,
 (.seq
  (.region [⟨some 4, none, .ex (.mov) [.k (.bool false)]⟩])
  (.seq
   (.seq
    (.region [⟨some 6, none, .ex (.mov) [.s 0]⟩,
      ⟨some 7, none, .ex (.len) [.s 6]⟩,
      ⟨some 8, none, .ex (.mov) [.s 1]⟩,
      ⟨some 9, none, .ex (.len) [.s 8]⟩,
      ⟨some 10, none, .ex (.ibin .neq) [.s 7, .s 9]⟩])
    (.cond (.s 10)
     (.seq
      (.region [⟨some 4, none, .ex (.mov) [.k (.bool false)]⟩])
      .ret)
     .skip))
   (.seq
    (.seq
     (.region [⟨some 11, none, .ex (.mov) [.s 0]⟩,
       ⟨some 12, none, .ex (.len) [.s 11]⟩,
       ⟨some 13, none, .ex (.mov) [.k (.int .i64 0)]⟩])
     (.block 0
      (.loop
       (.seq
        (.region [⟨some 14, none, .ex (.ibin .lss) [.s 13, .s 12]⟩])
        (.seq
         (.cond (.s 14)
          .skip
          (.exit 0))
         (.seq
          (.block 1
           (.seq
            (.region [⟨some 15, none, .ex (.mov) [.s 13]⟩,
              ⟨some 5, none, .ex (.mov) [.s 15]⟩])
            (.seq
             (.draw (.op ⟨some 16, none, .ex (.mov) [.s 0]⟩ (.op ⟨some 17, none, .ex (.mov) [.s 5]⟩ (.op ⟨some 18, none, .ex (.ia 6) [.s 16, .s 17]⟩ (.op ⟨some 19, none, .ex (.lda 6) [.s 18]⟩ (.op ⟨some 20, none, .ex (.mov) [.s 1]⟩ (.op ⟨some 21, none, .ex (.mov) [.s 5]⟩ (.op ⟨some 22, none, .ex (.ia 6) [.s 20, .s 21]⟩ (.op ⟨some 23, none, .ex (.lda 6) [.s 22]⟩ (.op ⟨some 24, none, .ex (.eqagg true [0, 1, 0, 0, 0, 2]) [.s 19, .s 23]⟩ .done))))))))))
             (.cond (.s 24)
              (.seq
               (.region [⟨some 4, none, .ex (.mov) [.k (.bool false)]⟩])
               .ret)
              .skip))))
          (.region [⟨some 25, none, .ex (.ibin .add) [.s 13, .k (.int .i64 1)]⟩,
            ⟨some 13, none, .ex (.mov) [.s 25]⟩])))))))
    (.seq
     (.region [⟨some 4, none, .ex (.mov) [.k (.bool true)]⟩])
     .ret)))),
 [.t 4]⟩
theorem c130 : compFn Go.Proofs.Tryz.prog 130 = some fn130 := by kernel_rfl

/-- slices.Equal[[]rubric/api.Attr,rubric/api.Attr] -/
def fn131 : AFn := ⟨26,
 (.seq
  (.region [⟨some 4, none, .ex (.mov) [.k (.bool false)]⟩])
  (.seq
   (.seq
    (.region [⟨some 6, none, .ex (.mov) [.s 0]⟩,
      ⟨some 7, none, .ex (.len) [.s 6]⟩,
      ⟨some 8, none, .ex (.mov) [.s 1]⟩,
      ⟨some 9, none, .ex (.len) [.s 8]⟩,
      ⟨some 10, none, .ex (.ibin .neq) [.s 7, .s 9]⟩])
    (.cond (.s 10)
     (.seq
      (.region [⟨some 4, none, .ex (.mov) [.k (.bool false)]⟩])
      .ret)
     .skip))
   (.seq
    (.seq
     (.region [⟨some 11, none, .ex (.mov) [.s 0]⟩,
       ⟨some 12, none, .ex (.len) [.s 11]⟩,
       ⟨some 13, none, .ex (.mov) [.k (.int .i64 0)]⟩])
     (.block 0
      (.loop
       (.seq
        (.region [⟨some 14, none, .ex (.ibin .lss) [.s 13, .s 12]⟩])
        (.seq
         (.cond (.s 14)
          .skip
          (.exit 0))
         (.seq
          (.block 1
           (.seq
            (.region [⟨some 15, none, .ex (.mov) [.s 13]⟩,
              ⟨some 5, none, .ex (.mov) [.s 15]⟩])
            (.seq
             (.draw (.op ⟨some 16, none, .ex (.mov) [.s 0]⟩ (.op ⟨some 17, none, .ex (.mov) [.s 5]⟩ (.op ⟨some 18, none, .ex (.ia 5) [.s 16, .s 17]⟩ (.op ⟨some 19, none, .ex (.lda 5) [.s 18]⟩ (.op ⟨some 20, none, .ex (.mov) [.s 1]⟩ (.op ⟨some 21, none, .ex (.mov) [.s 5]⟩ (.op ⟨some 22, none, .ex (.ia 5) [.s 20, .s 21]⟩ (.op ⟨some 23, none, .ex (.lda 5) [.s 22]⟩ (.op ⟨some 24, none, .ex (.eqagg true [0, 0, 0, 0, 2]) [.s 19, .s 23]⟩ .done))))))))))
             (.cond (.s 24)
              (.seq
               (.region [⟨some 4, none, .ex (.mov) [.k (.bool false)]⟩])
               .ret)
              .skip))))
          (.region [⟨some 25, none, .ex (.ibin .add) [.s 13, .k (.int .i64 1)]⟩,
            ⟨some 13, none, .ex (.mov) [.s 25]⟩])))))))
    (.seq
     (.region [⟨some 4, none, .ex (.mov) [.k (.bool true)]⟩])
     .ret)))),
 [.t 4]⟩
theorem c131 : compFn Go.Proofs.Tryz.prog 131 = some fn131 := by kernel_rfl

/-- slices.DeleteFunc[[]rubric/api.Change,rubric/api.Change] -/
def fn132 : AFn := ⟨42,
 (.seq
  (.region [⟨some 4, none, .ex (.mov) [.k .nils]⟩])
  (.seq
   (.region [⟨some 8, none, .ex (.mov) [.s 0]⟩,
     ⟨some 9, none, .ex (.mov) [.s 1]⟩,
     ⟨some 10, none, .callf 141 [.s 8, .s 9]⟩,
     ⟨some 5, none, .ex (.mov) [.s 10]⟩])
   (.seq
    (.seq
     (.region [⟨some 11, none, .ex (.mov) [.s 5]⟩,
       ⟨some 12, none, .ex (.ibin .eql) [.s 11, .k (.int .i64 (-1))]⟩])
     (.cond (.s 12)
      (.seq
       (.region [⟨some 13, none, .ex (.mov) [.s 0]⟩,
         ⟨some 4, none, .ex (.mov) [.s 13]⟩])
       .ret)
      .skip))
    (.seq
     (.seq
      (.region [⟨some 14, none, .ex (.mov) [.s 5]⟩,
        ⟨some 15, none, .ex (.ibin .add) [.s 14, .k (.int .i64 1)]⟩,
        ⟨some 6, none, .ex (.mov) [.s 15]⟩])
      (.block 0
       (.loop
        (.seq
         (.seq
          (.region [⟨some 16, none, .ex (.mov) [.s 6]⟩,
            ⟨some 17, none, .ex (.mov) [.s 0]⟩,
            ⟨some 18, none, .ex (.len) [.s 17]⟩,
            ⟨some 19, none, .ex (.ibin .lss) [.s 16, .s 18]⟩])
          (.cond (.s 19)
           .skip
           (.exit 0)))
         (.seq
          (.block 1
           (.seq
            (.region [⟨some 22, none, .ex (.mov) [.s 0]⟩,
              ⟨some 23, none, .ex (.mov) [.s 6]⟩,
              ⟨some 24, none, .ex (.ia 6) [.s 22, .s 23]⟩,
              ⟨some 25, none, .ex (.lda 6) [.s 24]⟩,
              ⟨some 7, none, .ex (.alloc [(.int .i64 0), (.bool false), (.int .u8 0), (.int .i64 0), (.int .u64 0), (.str ⟨#[]⟩)]) []⟩,
              ⟨none, none, .ex (.st 6) [.s 7, .s 25]⟩])
            (.seq
             (.region [⟨some 26, none, .ex (.mov) [.s 1]⟩,
               ⟨some 27, none, .ex (.lda 6) [.s 7]⟩,
               ⟨some 28, none, .callv (.s 26) [.s 27]⟩,
               ⟨some 29, none, .ex (.bnot) [.s 28]⟩])
             (.cond (.s 29)
              (.seq
               (.region [⟨some 30, none, .ex (.mov) [.s 0]⟩,
                 ⟨some 31, none, .ex (.mov) [.s 5]⟩,
                 ⟨some 32, none, .ex (.lda 6) [.s 7]⟩,
                 ⟨some 33, none, .ex (.ia 6) [.s 30, .s 31]⟩,
                 ⟨none, none, .ex (.st 6) [.s 33, .s 32]⟩])
               (.region [⟨some 34, none, .ex (.mov) [.s 5]⟩,
                 ⟨some 35, none, .ex (.ibin .add) [.s 34, .k (.int .i64 1)]⟩,
                 ⟨some 5, none, .ex (.mov) [.s 35]⟩]))
              .skip))))
          (.region [⟨some 20, none, .ex (.mov) [.s 6]⟩,
            ⟨some 21, none, .ex (.ibin .add) [.s 20, .k (.int .i64 1)]⟩,
            ⟨some 6, none, .ex (.mov) [.s 21]⟩]))))))
     (.seq
      (.region [⟨some 36, none, .ex (.mov) [.s 0]⟩,
        ⟨some 37, none, .ex (.mov) [.s 5]⟩,
        ⟨some 38, none, .ex (.slc 6 true false false) [.s 36, .s 37]⟩,
        ⟨none, none, .ex (.clear [(.int .i64 0), (.bool false), (.int .u8 0), (.int .i64 0), (.int .u64 0), (.str ⟨#[]⟩)]) [.s 38]⟩])
      (.seq
       (.region [⟨some 39, none, .ex (.mov) [.s 0]⟩,
         ⟨some 40, none, .ex (.mov) [.s 5]⟩,
         ⟨some 41, none, .ex (.slc 6 false true false) [.s 39, .s 40]⟩,
         ⟨some 4, none, .ex (.mov) [.s 41]⟩])
       .ret)))))),
 [.t 4]⟩
theorem c132 : compFn Go.Proofs.Tryz.prog 132 = some fn132 := by kernel_rfl

/-- rubric/patch.Part$1 -/
def fn133 : AFn := ⟨22,
 (.seq
  (.region [⟨some 3, none, .ex (.box) [.s 0]⟩,
    ⟨some 4, none, .ex (.mov) [.k (.bool false)]⟩])
  (.seq
   (.region [⟨some 8, none, .ex (.ld 1) [.s 1]⟩,
     ⟨some 9, none, .ex (.fa 0) [.s 3]⟩,
     ⟨some 10, none, .ex (.ld 1) [.s 9]⟩,
     ⟨some 11, none, .callf 134 [.s 8, .s 10]⟩,
     ⟨some 7, none, .ex (.mov) [.s 11]⟩,
     ⟨some 12, none, .ex (.ext 0) [.s 7]⟩,
     ⟨some 13, none, .ex (.ext 1) [.s 7]⟩,
     ⟨some 5, none, .ex (.alloc [(.int .i64 0), (.bool false), (.int .u8 0), (.bool false), (.bool false), (.int .i64 0)]) []⟩,
     ⟨none, none, .ex (.st 6) [.s 5, .s 12]⟩,
     ⟨some 6, none, .ex (.mov) [.s 13]⟩])
   (.seq
    (.region [⟨some 14, none, .ex (.mov) [.s 6]⟩,
      ⟨some 15, none, .ex (.bnot) [.s 14]⟩,
      ⟨some 16, none, .ex (.mov) [.s 15]⟩,
      ⟨some 17, some (16, false), .ex (.fa 1) [.s 5]⟩,
      ⟨some 18, some (16, false), .ex (.ld 1) [.s 17]⟩,
      ⟨some 19, some (16, false), .ex (.ld 1) [.s 2]⟩,
      ⟨some 20, some (16, false), .ex (.bbin true) [.s 18, .s 19]⟩,
      ⟨some 21, none, .ex (.pick) [.s 16, .k (.bool true), .s 20]⟩,
      ⟨some 4, none, .ex (.mov) [.s 21]⟩])
    .ret))),
 [.t 4]⟩
theorem c133 : compFn Go.Proofs.Tryz.prog 133 = some fn133 := by kernel_rfl

/-- (*rubric/schema.Schema).Find -/
def fn134 : AFn := ⟨22,
 (.seq
  (.region [⟨some 4, none, .ex (.alloc [(.int .i64 0), (.bool false), (.int .u8 0), (.bool false), (.bool false), (.int .i64 0)]) []⟩,
    ⟨some 5, none, .ex (.mov) [.k (.bool false)]⟩])
  (.seq
   (.seq
    (.region [⟨some 8, none, .ex (.mov) [.s 0]⟩,
      ⟨some 9, none, .ex (.eqnil 0 false) [.s 8, .k .nilp]⟩])
    (.cond (.s 9)
     (.seq
      (.region [⟨some 10, none, .ex (.build [(.int .i64 0), (.bool false), (.int .u8 0), (.bool false), (.bool false), (.int .i64 0)] []) []⟩,
        ⟨none, none, .ex (.st 6) [.s 4, .s 10]⟩,
        ⟨some 5, none, .ex (.mov) [.k (.bool false)]⟩])
      .ret)
     .skip))
   (.seq
    (.region [⟨some 12, none, .ex (.mov) [.s 0]⟩,
      ⟨some 13, none, .ex (.nilck) [.s 12]⟩,
      ⟨some 14, none, .ex (.fa 1) [.s 13]⟩,
      ⟨some 15, none, .ex (.ld 1) [.s 14]⟩,
      ⟨some 16, none, .ex (.mov) [.s 1]⟩,
      ⟨some 17, none, .ex (.look 0 (.agg [(.int .i64 0), (.bool false), (.int .u8 0), (.bool false), (.bool false), (.int .i64 0)]) true) [.s 15, .s 16]⟩,
      ⟨some 11, none, .ex (.mov) [.s 17]⟩,
      ⟨some 18, none, .ex (.ext 0) [.s 11]⟩,
      ⟨some 19, none, .ex (.ext 1) [.s 11]⟩,
      ⟨some 6, none, .ex (.alloc [(.int .i64 0), (.bool false), (.int .u8 0), (.bool false), (.bool false), (.int .i64 0)]) []⟩,
      ⟨none, none, .ex (.st 6) [.s 6, .s 18]⟩,
      ⟨some 7, none, .ex (.mov) [.s 19]⟩])
    (.seq
     (.region [⟨some 20, none, .ex (.lda 6) [.s 6]⟩,
       ⟨some 21, none, .ex (.mov) [.s 7]⟩,
       ⟨none, none, .ex (.st 6) [.s 4, .s 20]⟩,
       ⟨some 5, none, .ex (.mov) [.s 21]⟩])
     .ret)))),
 [.ca 4 6, .t 5]⟩
theorem c134 : compFn Go.Proofs.Tryz.prog 134 = some fn134 := by kernel_rfl

/-- slices.ContainsFunc[[]int32,int32] -/
def fn136 : AFn := ⟨9,
 (.seq
  (.region [⟨some 4, none, .ex (.mov) [.k (.bool false)]⟩])
  (.seq
   (.region [⟨some 5, none, .ex (.mov) [.s 0]⟩,
     ⟨some 6, none, .ex (.mov) [.s 1]⟩,
     ⟨some 7, none, .callf 143 [.s 5, .s 6]⟩,
     ⟨some 8, none, .ex (.ibin .geq) [.s 7, .k (.int .i64 0)]⟩,
     ⟨some 4, none, .ex (.mov) [.s 8]⟩])
   .ret)),
 [.t 4]⟩
theorem c136 : compFn Go.Proofs.Tryz.prog 136 = some fn136 := by kernel_rfl

/-- rubric/ops.form$1 -/
def fn137 : AFn := ⟨6,
 (.seq
  (.region [⟨some 2, none, .ex (.mov) [.k (.bool false)]⟩])
  (.seq
   (.region [⟨some 3, none, .ex (.mov) [.s 0]⟩,
     ⟨some 4, none, .callf 138 [.s 3]⟩,
     ⟨some 5, none, .ex (.bnot) [.s 4]⟩,
     ⟨some 2, none, .ex (.mov) [.s 5]⟩])
   .ret)),
 [.t 2]⟩
theorem c137 : compFn Go.Proofs.Tryz.prog 137 = some fn137 := by kernel_rfl

/-- rubric/runes.May -/
def fn138 : AFn := ⟨5,
 (.seq
  (.region [⟨some 2, none, .ex (.mov) [.k (.bool false)]⟩])
  (.seq
   (.region [⟨some 3, none, .ex (.mov) [.s 0]⟩,
     ⟨some 4, none, .callf 144 [.s 3]⟩,
     ⟨some 2, none, .ex (.mov) [.s 4]⟩])
   .ret)),
 [.t 2]⟩
theorem c138 : compFn Go.Proofs.Tryz.prog 138 = some fn138 := by kernel_rfl

/-- rubric/value.May -/
def fn139 : AFn := ⟨45,
 (.seq
  (.region [⟨some 1, none, .ex (.box) [.s 0]⟩,
    ⟨some 2, none, .ex (.mov) [.k (.bool false)]⟩])
  (.seq
   (.seq
    (.region [⟨some 5, none, .ex (.fa 0) [.s 1]⟩,
      ⟨some 6, none, .ex (.ld 1) [.s 5]⟩])
    (.block 0
     (.seq
      (.region [⟨some 8, none, .ex (.ibin .eql) [.s 6, .k (.int .u8 1)]⟩,
        ⟨some 7, none, .ex (.mov) [.s 8]⟩])
      (.cond (.s 7)
       (.seq
        (.draw (.op ⟨some 10, none, .ex (.fa 1) [.s 1]⟩ (.op ⟨some 11, none, .ex (.ld 1) [.s 10]⟩ (.op ⟨some 12, none, .ex (.ibin .eql) [.s 11, .k (.int .i64 1)]⟩ (.fork (.op ⟨some 9, none, .ex (.lda 4) [.s 1]⟩ (.op ⟨some 13, none, .callf 145 [.s 12]⟩ (.op ⟨some 14, none, .ex (.eqagg false [0, 0, 0, 2]) [.s 9, .s 13]⟩ (.op ⟨some 2, none, .ex (.mov) [.s 14]⟩ .done)))) (.op ⟨some 13, none, .callf 145 [.s 12]⟩ (.op ⟨some 9, none, .ex (.lda 4) [.s 1]⟩ (.op ⟨some 14, none, .ex (.eqagg false [0, 0, 0, 2]) [.s 9, .s 13]⟩ (.op ⟨some 2, none, .ex (.mov) [.s 14]⟩ .done)))))))))
        .ret)
       (.seq
        (.region [⟨some 16, none, .ex (.ibin .eql) [.s 6, .k (.int .u8 2)]⟩,
          ⟨some 15, none, .ex (.mov) [.s 16]⟩])
        (.cond (.s 15)
         (.seq
          (.draw (.op ⟨some 18, none, .ex (.fa 1) [.s 1]⟩ (.op ⟨some 19, none, .ex (.ld 1) [.s 18]⟩ (.fork (.op ⟨some 17, none, .ex (.lda 4) [.s 1]⟩ (.op ⟨some 20, none, .callf 146 [.s 19]⟩ (.op ⟨some 21, none, .ex (.eqagg false [0, 0, 0, 2]) [.s 17, .s 20]⟩ (.op ⟨some 2, none, .ex (.mov) [.s 21]⟩ .done)))) (.op ⟨some 20, none, .callf 146 [.s 19]⟩ (.op ⟨some 17, none, .ex (.lda 4) [.s 1]⟩ (.op ⟨some 21, none, .ex (.eqagg false [0, 0, 0, 2]) [.s 17, .s 20]⟩ (.op ⟨some 2, none, .ex (.mov) [.s 21]⟩ .done))))))))
          .ret)
         (.seq
          (.region [⟨some 23, none, .ex (.ibin .eql) [.s 6, .k (.int .u8 3)]⟩,
            ⟨some 22, none, .ex (.mov) [.s 23]⟩])
          (.cond (.s 22)
           (.seq
            (.draw (.op ⟨some 25, none, .ex (.fa 2) [.s 1]⟩ (.op ⟨some 26, none, .ex (.ld 1) [.s 25]⟩ (.op ⟨some 27, none, .ffrom 148 (.s 26)⟩ (.fork (.op ⟨some 24, none, .ex (.lda 4) [.s 1]⟩ (.op ⟨some 28, none, .callf 147 [.s 27]⟩ (.op ⟨some 29, none, .ex (.eqagg false [0, 0, 0, 2]) [.s 24, .s 28]⟩ (.op ⟨some 2, none, .ex (.mov) [.s 29]⟩ .done)))) (.op ⟨some 28, none, .callf 147 [.s 27]⟩ (.op ⟨some 24, none, .ex (.lda 4) [.s 1]⟩ (.op ⟨some 29, none, .ex (.eqagg false [0, 0, 0, 2]) [.s 24, .s 28]⟩ (.op ⟨some 2, none, .ex (.mov) [.s 29]⟩ .done)))))))))
            .ret)
           (.seq
            (.region [⟨some 31, none, .ex (.ibin .eql) [.s 6, .k (.int .u8 4)]⟩,
              ⟨some 30, none, .ex (.mov) [.s 31]⟩])
            (.cond (.s 30)
             (.seq
              (.region [⟨some 33, none, .ex (.fa 3) [.s 1]⟩,
                ⟨some 34, none, .ex (.ld 1) [.s 33]⟩,
                ⟨some 35, none, .callf 149 [.s 34]⟩,
                ⟨some 32, none, .ex (.mov) [.s 35]⟩,
                ⟨some 36, none, .ex (.ext 0) [.s 32]⟩,
                ⟨some 37, none, .ex (.ext 1) [.s 32]⟩,
                ⟨some 3, none, .ex (.alloc [(.int .u8 0), (.int .i64 0), (.int .u64 0), (.str ⟨#[]⟩)]) []⟩,
                ⟨none, none, .ex (.st 4) [.s 3, .s 36]⟩,
                ⟨some 4, none, .ex (.mov) [.s 37]⟩])
              (.seq
               (.region [⟨some 38, none, .ex (.mov) [.s 4]⟩,
                 ⟨some 39, none, .ex (.ibin .eql) [.s 38, .k (.int .i64 0)]⟩,
                 ⟨some 40, none, .ex (.mov) [.s 39]⟩,
                 ⟨some 41, some (40, true), .ex (.lda 4) [.s 1]⟩,
                 ⟨some 42, some (40, true), .ex (.lda 4) [.s 3]⟩,
                 ⟨some 43, some (40, true), .ex (.eqagg false [0, 0, 0, 2]) [.s 41, .s 42]⟩,
                 ⟨some 44, none, .ex (.pick) [.s 40, .s 43, .k (.bool false)]⟩,
                 ⟨some 2, none, .ex (.mov) [.s 44]⟩])
               .ret))
             .skip))))))))))
   (.seq
    (.region [⟨some 2, none, .ex (.mov) [.k (.bool false)]⟩])
    .ret))),
 [.t 2]⟩
theorem c139 : compFn Go.Proofs.Tryz.prog 139 = some fn139 := by kernel_rfl

/-- (*rubric/schema.Schema).Fits -/
def fn140 : AFn := ⟨27,
 (.seq
  (.region [⟨some 5, none, .ex (.box) [.s 2]⟩,
    ⟨some 6, none, .ex (.mov) [.k (.bool false)]⟩])
  (.seq
   (.region [⟨some 10, none, .ex (.mov) [.s 0]⟩,
     ⟨some 11, none, .ex (.mov) [.s 1]⟩,
     ⟨some 12, none, .callf 134 [.s 10, .s 11]⟩,
     ⟨some 9, none, .ex (.mov) [.s 12]⟩,
     ⟨some 13, none, .ex (.ext 0) [.s 9]⟩,
     ⟨some 14, none, .ex (.ext 1) [.s 9]⟩,
     ⟨some 7, none, .ex (.alloc [(.int .i64 0), (.bool false), (.int .u8 0), (.bool false), (.bool false), (.int .i64 0)]) []⟩,
     ⟨none, none, .ex (.st 6) [.s 7, .s 13]⟩,
     ⟨some 8, none, .ex (.mov) [.s 14]⟩])
   (.seq
    (.region [⟨some 15, none, .ex (.mov) [.s 8]⟩,
      ⟨some 16, none, .ex (.mov) [.s 15]⟩,
      ⟨some 17, some (16, true), .ex (.fa 2) [.s 7]⟩,
      ⟨some 18, some (16, true), .ex (.ld 1) [.s 17]⟩,
      ⟨some 19, some (16, true), .ex (.fa 0) [.s 5]⟩,
      ⟨some 20, some (16, true), .ex (.ld 1) [.s 19]⟩,
      ⟨some 21, some (16, true), .ex (.ibin .eql) [.s 18, .s 20]⟩,
      ⟨some 22, none, .ex (.pick) [.s 16, .s 21, .k (.bool false)]⟩,
      ⟨some 23, none, .ex (.mov) [.s 22]⟩,
      ⟨some 24, some (23, true), .ex (.lda 4) [.s 5]⟩,
      ⟨some 25, some (23, true), .callf 139 [.s 24]⟩,
      ⟨some 26, none, .ex (.pick) [.s 23, .s 25, .k (.bool false)]⟩,
      ⟨some 6, none, .ex (.mov) [.s 26]⟩])
    .ret))),
 [.t 6]⟩
theorem c140 : compFn Go.Proofs.Tryz.prog 140 = some fn140 := by kernel_rfl

/-- slices.IndexFunc[[]rubric/api.Change,rubric/api.Change] -/
def fn141 : AFn := ⟨19,
 (.seq
  (.region [⟨some 4, none, .ex (.mov) [.k (.int .i64 0)]⟩])
  (.seq
   (.seq
    (.region [⟨some 6, none, .ex (.mov) [.s 0]⟩,
      ⟨some 7, none, .ex (.len) [.s 6]⟩,
      ⟨some 8, none, .ex (.mov) [.k (.int .i64 0)]⟩])
    (.block 0
     (.loop
      (.seq
       (.region [⟨some 9, none, .ex (.ibin .lss) [.s 8, .s 7]⟩])
       (.seq
        (.cond (.s 9)
         .skip
         (.exit 0))
        (.seq
         (.block 1
          (.seq
           (.region [⟨some 10, none, .ex (.mov) [.s 8]⟩,
             ⟨some 5, none, .ex (.mov) [.s 10]⟩])
           (.seq
            (.region [⟨some 11, none, .ex (.mov) [.s 1]⟩,
              ⟨some 12, none, .ex (.mov) [.s 0]⟩,
              ⟨some 13, none, .ex (.mov) [.s 5]⟩,
              ⟨some 14, none, .ex (.ia 6) [.s 12, .s 13]⟩,
              ⟨some 15, none, .ex (.lda 6) [.s 14]⟩,
              ⟨some 16, none, .callv (.s 11) [.s 15]⟩])
            (.cond (.s 16)
             (.seq
              (.region [⟨some 17, none, .ex (.mov) [.s 5]⟩,
                ⟨some 4, none, .ex (.mov) [.s 17]⟩])
              .ret)
             .skip))))
         (.region [⟨some 18, none, .ex (.ibin .add) [.s 8, .k (.int .i64 1)]⟩,
           ⟨some 8, none, .ex (.mov) [.s 18]⟩])))))))
   (.seq
    (.region [⟨some 4, none, .ex (.mov) [.k (.int .i64 (-1))]⟩])
    .ret))),
 [.t 4]⟩
theorem c141 : compFn Go.Proofs.Tryz.prog 141 = some fn141 := by kernel_rfl

/-- slices.IndexFunc[[]int32,int32] -/
def fn143 : AFn := ⟨19,
 (.seq
  (.region [⟨some 4, none, .ex (.mov) [.k (.int .i64 0)]⟩])
  (.seq
   (.seq
    (.region [⟨some 6, none, .ex (.mov) [.s 0]⟩,
      ⟨some 7, none, .ex (.len) [.s 6]⟩,
      ⟨some 8, none, .ex (.mov) [.k (.int .i64 0)]⟩])
    (.block 0
     (.loop
      (.seq
       (.region [⟨some 9, none, .ex (.ibin .lss) [.s 8, .s 7]⟩])
       (.seq
        (.cond (.s 9)
         .skip
         (.exit 0))
        (.seq
         (.block 1
          (.seq
           (.region [⟨some 10, none, .ex (.mov) [.s 8]⟩,
             ⟨some 5, none, .ex (.mov) [.s 10]⟩])
           (.seq
            (.region [⟨some 11, none, .ex (.mov) [.s 1]⟩,
              ⟨some 12, none, .ex (.mov) [.s 0]⟩,
              ⟨some 13, none, .ex (.mov) [.s 5]⟩,
              ⟨some 14, none, .ex (.ia 1) [.s 12, .s 13]⟩,
              ⟨some 15, none, .ex (.ld 1) [.s 14]⟩,
              ⟨some 16, none, .callv (.s 11) [.s 15]⟩])
            (.cond (.s 16)
             (.seq
              (.region [⟨some 17, none, .ex (.mov) [.s 5]⟩,
                ⟨some 4, none, .ex (.mov) [.s 17]⟩])
              .ret)
             .skip))))
         (.region [⟨some 18, none, .ex (.ibin .add) [.s 8, .k (.int .i64 1)]⟩,
           ⟨some 8, none, .ex (.mov) [.s 18]⟩])))))))
   (.seq
    (.region [⟨some 4, none, .ex (.mov) [.k (.int .i64 (-1))]⟩])
    .ret))),
 [.t 4]⟩
theorem c143 : compFn Go.Proofs.Tryz.prog 143 = some fn143 := by kernel_rfl

/-- unicode/utf8.ValidRune -/
def fn144 : AFn := ⟨17,
 (.seq
  (.region [⟨some 2, none, .ex (.mov) [.k (.bool false)]⟩])
  (.seq
   (.block 0
    (.seq
     (.region [⟨some 4, none, .ex (.mov) [.s 0]⟩,
       ⟨some 5, none, .ex (.ibin .leq) [.k (.int .i32 0), .s 4]⟩,
       ⟨some 6, none, .ex (.mov) [.s 5]⟩,
       ⟨some 7, some (6, true), .ex (.mov) [.s 0]⟩,
       ⟨some 8, some (6, true), .ex (.ibin .lss) [.s 7, .k (.int .i32 55296)]⟩,
       ⟨some 9, none, .ex (.pick) [.s 6, .s 8, .k (.bool false)]⟩,
       ⟨some 3, none, .ex (.mov) [.s 9]⟩])
     (.cond (.s 3)
      (.seq
       (.region [⟨some 2, none, .ex (.mov) [.k (.bool true)]⟩])
       .ret)
      (.seq
       (.region [⟨some 11, none, .ex (.mov) [.s 0]⟩,
         ⟨some 12, none, .ex (.ibin .lss) [.k (.int .i32 57343), .s 11]⟩,
         ⟨some 13, none, .ex (.mov) [.s 12]⟩,
         ⟨some 14, some (13, true), .ex (.mov) [.s 0]⟩,
         ⟨some 15, some (13, true), .ex (.ibin .leq) [.s 14, .k (.int .i32 1114111)]⟩,
         ⟨some 16, none, .ex (.pick) [.s 13, .s 15, .k (.bool false)]⟩,
         ⟨some 10, none, .ex (.mov) [.s 16]⟩])
       (.cond (.s 10)
        (.seq
         (.region [⟨some 2, none, .ex (.mov) [.k (.bool true)]⟩])
         .ret)
        .skip)))))
   (.seq
    (.region [⟨some 2, none, .ex (.mov) [.k (.bool false)]⟩])
    .ret))),
 [.t 2]⟩
theorem c144 : compFn Go.Proofs.Tryz.prog 144 = some fn144 := by kernel_rfl

/-- rubric/value.Flag -/
def fn145 : AFn := ⟨8,
 (.seq
  (.region [⟨some 2, none, .ex (.alloc [(.int .u8 0), (.int .i64 0), (.int .u64 0), (.str ⟨#[]⟩)]) []⟩])
  (.seq
   (.region [⟨some 4, none, .ex (.build [(.int .u8 0), (.int .i64 0), (.int .u64 0), (.str ⟨#[]⟩)] [(0, 1)]) [.k (.int .u8 1)]⟩,
     ⟨some 3, none, .ex (.alloc [(.int .u8 0), (.int .i64 0), (.int .u64 0), (.str ⟨#[]⟩)]) []⟩,
     ⟨none, none, .ex (.st 4) [.s 3, .s 4]⟩])
   (.seq
    (.seq
     (.region [⟨some 5, none, .ex (.mov) [.s 0]⟩])
     (.cond (.s 5)
      (.region [⟨some 6, none, .ex (.fa 1) [.s 3]⟩,
        ⟨none, none, .ex (.st 1) [.s 6, .k (.int .i64 1)]⟩])
      .skip))
    (.seq
     (.region [⟨some 7, none, .ex (.lda 4) [.s 3]⟩,
       ⟨none, none, .ex (.st 4) [.s 2, .s 7]⟩])
     .ret)))),
 [.ca 2 4]⟩
theorem c145 : compFn Go.Proofs.Tryz.prog 145 = some fn145 := by kernel_rfl

/-- rubric/value.Int -/
def fn146 : AFn := ⟨5,
 (.seq
  (.region [⟨some 2, none, .ex (.alloc [(.int .u8 0), (.int .i64 0), (.int .u64 0), (.str ⟨#[]⟩)]) []⟩])
  (.seq
   (.region [⟨some 3, none, .ex (.mov) [.s 0]⟩,
     ⟨some 4, none, .ex (.build [(.int .u8 0), (.int .i64 0), (.int .u64 0), (.str ⟨#[]⟩)] [(0, 1), (1, 1)]) [.k (.int .u8 2), .s 3]⟩,
     ⟨none, none, .ex (.st 4) [.s 2, .s 4]⟩])
   .ret)),
 [.ca 2 4]⟩
theorem c146 : compFn Go.Proofs.Tryz.prog 146 = some fn146 := by kernel_rfl

/-- rubric/value.Float -/
def fn147 : AFn := ⟨9,
 (.seq
  (.region [⟨some 2, none, .ex (.alloc [(.int .u8 0), (.int .i64 0), (.int .u64 0), (.str ⟨#[]⟩)]) []⟩])
  (.seq
   (.seq
    (.region [⟨some 3, none, .ex (.mov) [.s 0]⟩,
      ⟨some 4, none, .callf 151 [.s 3]⟩])
    (.cond (.s 4)
     (.seq
      (.region [⟨some 5, none, .ex (.build [(.int .u8 0), (.int .i64 0), (.int .u64 0), (.str ⟨#[]⟩)] [(0, 1), (2, 1)]) [.k (.int .u8 3), .k (.int .u64 9221120237041090560)]⟩,
        ⟨none, none, .ex (.st 4) [.s 2, .s 5]⟩])
      .ret)
     .skip))
   (.seq
    (.region [⟨some 6, none, .ex (.mov) [.s 0]⟩,
      ⟨some 7, none, .fbits 152 (.s 6)⟩,
      ⟨some 8, none, .ex (.build [(.int .u8 0), (.int .i64 0), (.int .u64 0), (.str ⟨#[]⟩)] [(0, 1), (2, 1)]) [.k (.int .u8 3), .s 7]⟩,
      ⟨none, none, .ex (.st 4) [.s 2, .s 8]⟩])
    .ret))),
 [.ca 2 4]⟩
theorem c147 : compFn Go.Proofs.Tryz.prog 147 = some fn147 := by kernel_rfl

/-- rubric/value.Text -/
def fn149 : AFn := ⟨22,
 (.seq
  (.region [⟨some 2, none, .ex (.alloc [(.int .u8 0), (.int .i64 0), (.int .u64 0), (.str ⟨#[]⟩)]) []⟩,
    ⟨some 3, none, .ex (.mov) [.k (.int .i64 0)]⟩])
  (.seq
   (.seq
    (.region [⟨some 6, none, .ex (.mov) [.s 0]⟩,
      ⟨some 7, none, .ex (.slen) [.s 6]⟩,
      ⟨some 8, none, .ex (.ibin .gtr) [.s 7, .k (.int .i64 64)]⟩])
    (.cond (.s 8)
     (.seq
      (.region [⟨some 9, none, .ex (.build [(.int .u8 0), (.int .i64 0), (.int .u64 0), (.str ⟨#[]⟩)] []) []⟩,
        ⟨none, none, .ex (.st 4) [.s 2, .s 9]⟩,
        ⟨some 3, none, .ex (.mov) [.k (.int .i64 3)]⟩])
      .ret)
     .skip))
   (.seq
    (.seq
     (.region [⟨some 11, none, .ex (.mov) [.s 0]⟩,
       ⟨some 12, none, .ex (.s2b) [.s 11]⟩,
       ⟨some 13, none, .callf 153 [.s 12]⟩,
       ⟨some 10, none, .ex (.mov) [.s 13]⟩,
       ⟨some 14, none, .ex (.ext 0) [.s 10]⟩,
       ⟨some 15, none, .ex (.ext 1) [.s 10]⟩,
       ⟨some 4, none, .ex (.mov) [.s 14]⟩,
       ⟨some 5, none, .ex (.mov) [.s 15]⟩])
     (.seq
      (.region [⟨some 16, none, .ex (.mov) [.s 5]⟩,
        ⟨some 17, none, .ex (.ibin .neq) [.s 16, .k (.int .i64 0)]⟩])
      (.cond (.s 17)
       (.seq
        (.region [⟨some 18, none, .ex (.build [(.int .u8 0), (.int .i64 0), (.int .u64 0), (.str ⟨#[]⟩)] []) []⟩,
          ⟨some 19, none, .ex (.mov) [.s 5]⟩,
          ⟨none, none, .ex (.st 4) [.s 2, .s 18]⟩,
          ⟨some 3, none, .ex (.mov) [.s 19]⟩])
        .ret)
       .skip)))
    (.seq
     (.region [⟨some 20, none, .ex (.mov) [.s 0]⟩,
       ⟨some 21, none, .ex (.build [(.int .u8 0), (.int .i64 0), (.int .u64 0), (.str ⟨#[]⟩)] [(0, 1), (3, 1)]) [.k (.int .u8 4), .s 20]⟩,
       ⟨none, none, .ex (.st 4) [.s 2, .s 21]⟩,
       ⟨some 3, none, .ex (.mov) [.k (.int .i64 0)]⟩])
     .ret)))),
 [.ca 2 4, .t 3]⟩
theorem c149 : compFn Go.Proofs.Tryz.prog 149 = some fn149 := by kernel_rfl

/-- math.IsNaN -/
def fn151 : AFn := ⟨6,
 (.seq
  (.region [⟨some 2, none, .ex (.mov) [.k (.bool false)]⟩])
  (.seq
   (.region [⟨some 3, none, .ex (.mov) [.s 0]⟩,
     ⟨some 4, none, .ex (.mov) [.s 0]⟩,
     ⟨some 5, none, .ex (.fbin .neq) [.s 3, .s 4]⟩,
     ⟨some 2, none, .ex (.mov) [.s 5]⟩])
   .ret)),
 [.t 2]⟩
theorem c151 : compFn Go.Proofs.Tryz.prog 151 = some fn151 := by kernel_rfl

/-- rubric/runes.Read -/
def fn153 : AFn := ⟨21,
 (.seq
  (.region [⟨some 2, none, .ex (.mov) [.k .nils]⟩,
    ⟨some 3, none, .ex (.mov) [.k (.int .i64 0)]⟩])
  (.seq
   (.seq
    (.region [⟨some 7, none, .ex (.mov) [.s 0]⟩,
      ⟨some 8, none, .callf 154 [.s 7]⟩,
      ⟨some 9, none, .ex (.bnot) [.s 8]⟩])
    (.cond (.s 9)
     (.seq
      (.region [⟨some 2, none, .ex (.mov) [.k .nils]⟩,
        ⟨some 3, none, .ex (.mov) [.k (.int .i64 3)]⟩])
      .ret)
     .skip))
   (.seq
    (.region [⟨some 4, none, .ex (.mov) [.k .nils]⟩])
    (.seq
     (.seq
      (.region [⟨some 10, none, .ex (.mov) [.s 0]⟩,
        ⟨some 11, none, .ex (.b2s) [.s 10]⟩,
        ⟨some 12, none, .ex (.rits) [.s 11]⟩])
      (.block 0
       (.loop
        (.seq
         (.region [⟨some 13, none, .ex (.rnext) [.s 12]⟩,
           ⟨some 14, none, .ex (.ext 0) [.s 13]⟩])
         (.seq
          (.cond (.s 14)
           .skip
           (.exit 0))
          (.block 1
           (.seq
            (.region [⟨some 15, none, .ex (.ext 2) [.s 13]⟩,
              ⟨some 6, none, .ex (.mov) [.s 15]⟩])
            (.region [⟨some 16, none, .ex (.mov) [.s 4]⟩,
              ⟨some 17, none, .ex (.mov) [.s 6]⟩,
              ⟨some 18, none, .ex (.bsl 1 1 [(.int .i32 0)] [(0, 1)]) [.s 17]⟩,
              ⟨some 19, none, .ex (.app 1 4) [.s 16, .s 18]⟩,
              ⟨some 4, none, .ex (.mov) [.s 19]⟩]))))))))
     (.seq
      (.region [⟨some 20, none, .ex (.mov) [.s 4]⟩,
        ⟨some 2, none, .ex (.mov) [.s 20]⟩,
        ⟨some 3, none, .ex (.mov) [.k (.int .i64 0)]⟩])
      .ret))))),
 [.t 2, .t 3]⟩
theorem c153 : compFn Go.Proofs.Tryz.prog 153 = some fn153 := by kernel_rfl

end Go.Proofs.YtkmaikggdbielaaGreatDoor.Fw

/- Nothing of its own: the other functions lie in Fa and Fb. No condition. -/

/- Nothing of its own: the other functions lie in Fa and Fb. No condition. -/

/- slices.Equal, slices.EqualFunc; what is alike. No condition. -/
namespace Go.Proofs.YtkmaikggdbielaaGreatDoor.Fw
open Go
set_option linter.unusedSimpArgs false
set_option linter.unusedVariables false

def listEq {α : Type} (eq : α → α → Bool) : List α → List α → Bool
  | [], [] => true
  | a :: us, b :: bs => eq a b && listEq eq us bs
  | _, _ => false
theorem listEq_iff {α : Type} {eq : α → α → Bool} : ∀ {us bs : List α}, (∀ a ∈ us, ∀ b ∈ bs, eq a b = true ↔ a = b) → (listEq eq us bs = true ↔ us = bs)
  | [], [], _ => by simp [listEq]
  | [], b :: bs, _ => by simp [listEq]
  | a :: us, [], _ => by simp [listEq]
  | a :: us, b :: bs, h => by
    have ih := listEq_iff (us := us) (bs := bs) fun x hx y hy => h x (List.mem_cons_of_mem _ hx) y (List.mem_cons_of_mem _ hy)
    simp only [listEq, Bool.and_eq_true, ih, h a (by simp) b (by simp), List.cons.injEq]
theorem listEq_len {α : Type} {eq : α → α → Bool} : ∀ {us bs : List α}, us.length ≠ bs.length → listEq eq us bs = false
  | [], [], h => absurd rfl h
  | [], b :: bs, _ => rfl
  | a :: us, [], _ => rfl
  | a :: us, b :: bs, h => by simp only [listEq, listEq_len (us := us) (bs := bs) (by simpa using h), Bool.and_false]

def equalFn (sz : Nat) (ld cmp : AK) : AFn := ⟨26,
 (.seq
  (.region [⟨some 4, none, .ex (.mov) [.k (.bool false)]⟩])
  (.seq
   (.seq
    (.region [⟨some 6, none, .ex (.mov) [.s 0]⟩,
      ⟨some 7, none, .ex (.len) [.s 6]⟩,
      ⟨some 8, none, .ex (.mov) [.s 1]⟩,
      ⟨some 9, none, .ex (.len) [.s 8]⟩,
      ⟨some 10, none, .ex (.ibin .neq) [.s 7, .s 9]⟩])
    (.cond (.s 10)
     (.seq
      (.region [⟨some 4, none, .ex (.mov) [.k (.bool false)]⟩])
      .ret)
     .skip))
   (.seq
    (.seq
     (.region [⟨some 11, none, .ex (.mov) [.s 0]⟩,
       ⟨some 12, none, .ex (.len) [.s 11]⟩,
       ⟨some 13, none, .ex (.mov) [.k (.int .i64 0)]⟩])
     (.block 0
      (.loop
       (.seq
        (.region [⟨some 14, none, .ex (.ibin .lss) [.s 13, .s 12]⟩])
        (.seq
         (.cond (.s 14)
          .skip
          (.exit 0))
         (.seq
          (.block 1
           (.seq
            (.region [⟨some 15, none, .ex (.mov) [.s 13]⟩,
              ⟨some 5, none, .ex (.mov) [.s 15]⟩])
            (.seq
             (.draw (.op ⟨some 16, none, .ex (.mov) [.s 0]⟩ (.op ⟨some 17, none, .ex (.mov) [.s 5]⟩ (.op ⟨some 18, none, .ex (.ia sz) [.s 16, .s 17]⟩ (.op ⟨some 19, none, .ex ld [.s 18]⟩ (.op ⟨some 20, none, .ex (.mov) [.s 1]⟩ (.op ⟨some 21, none, .ex (.mov) [.s 5]⟩ (.op ⟨some 22, none, .ex (.ia sz) [.s 20, .s 21]⟩ (.op ⟨some 23, none, .ex ld [.s 22]⟩ (.op ⟨some 24, none, .ex cmp [.s 19, .s 23]⟩ .done))))))))))
             (.cond (.s 24)
              (.seq
               (.region [⟨some 4, none, .ex (.mov) [.k (.bool false)]⟩])
               .ret)
              .skip))))
          (.region [⟨some 25, none, .ex (.ibin .add) [.s 13, .k (.int .i64 1)]⟩,
            ⟨some 13, none, .ex (.mov) [.s 25]⟩])))))))
    (.seq
     (.region [⟨some 4, none, .ex (.mov) [.k (.bool true)]⟩])
     .ret)))),
 [.t 4]⟩
set_option maxRecDepth 20000 in
set_option maxHeartbeats 1000000 in
theorem equal_gen {f : FuncId} {sz : Nat} {ld cmp : AK} {α : Type} {enc : α → List V} {ldv : α → V} {eq : α → α → Bool} (hc : compFn PP f = some (equalFn sz ld cmp))
    (hld : ∀ a H id o, At H id o (enc a) → exec ld [.ptr id o] H = some (ldv a, H)) {x y : V} {H : Heap} {us bs : List α} (hcmp : ∀ a ∈ us, ∀ b ∈ bs, ∀ H, exec cmp [ldv a, ldv b] H = some (.bool (!eq a b), H))
    (hx : SL H x sz (us.map enc)) (hy : SL H y sz (bs.map enc)) (hl : us.length ≤ big) : SCalls PP f [x, y] H fun r H' => H' = H ∧ r = .bool (listEq eq us bs) := by
  refine SCalls.go hc (by simp [equalFn]) fun hw => ?_
  unfold big at hl
  have hlx : ∀ G, exec .len [x] G = some (.int .i64 us.length, G) := fun G => by have := hx.len (H' := G); rwa [List.length_map] at this
  have hly : ∀ G, exec .len [y] G = some (.int .i64 bs.length, G) := fun G => by have := hy.len (H' := G); rwa [List.length_map] at this
  by_cases hne : (us.length : Int) = bs.length
  rotate_left
  · simp (maxSteps := 1000000) (implicitDefEqProofs := false) only [stp, if_true, if_false, Int.reduceEq, Int.reduceLT, Int.reduceLE, Int.reduceGT, Int.reduceGE, reduceCtorEq, Nat.reduceEqDiff, List.getElem?_cons_zero, List.getElem?_cons_succ, Option.map_some, equalFn, enterFr, List.length, List.range, List.range.loop, List.zip, List.zipWith, hlx, hly, hne]
    exact ⟨by trivial, by rw [listEq_len (by omega)]⟩
  have hne' : us.length = bs.length := by omega
  simp (maxSteps := 1000000) (implicitDefEqProofs := false) only [stp, if_true, if_false, Int.reduceEq, Int.reduceLT, Int.reduceLE, Int.reduceGT, Int.reduceGE, reduceCtorEq, Nat.reduceEqDiff, List.getElem?_cons_zero, List.getElem?_cons_succ, Option.map_some, equalFn, enterFr, List.length, List.range, List.range.loop, List.zip, List.zipWith, hlx, hly, hne]
  refine wp_range (len := us.length) SCalls.scMono (by omega) (fun _ : Unit => [(0, x), (1, y)]) (fun k _ H' => H' = H ∧ listEq eq (us.drop k) (bs.drop k) = listEq eq us bs) () ⟨rfl, rfl⟩
    (.cons rfl (.cons (by rw [← hne]; rfl) (.cons rfl (.cons rfl .nil)))) (by decide) (fun s => ⟨rfl, rfl, rfl⟩) ?_ ?_
  · rintro k _ H' hk ⟨rfl, hacc⟩
    have hk2 : k < bs.length := by omega
    obtain ⟨i1, o1, ha1, ht1⟩ := hx.ia (H' := H') (i := k) (e := enc us[k]) (by rw [List.getElem?_map, List.getElem?_eq_getElem hk]; rfl) .i64
    obtain ⟨i2, o2, ha2, ht2⟩ := hy.ia (H' := H') (i := k) (e := enc bs[k]) (by rw [List.getElem?_map, List.getElem?_eq_getElem hk2]; rfl) .i64
    rw [List.drop_eq_getElem_cons hk, List.drop_eq_getElem_cons hk2] at hacc
    simp only [listEq] at hacc
    have hcm := hcmp us[k] (List.getElem_mem hk) bs[k] (List.getElem_mem hk2) H'
    cases he : eq us[k] bs[k] with
    | true =>
      rw [he] at hacc hcm
      simp (maxSteps := 1000000) (implicitDefEqProofs := false) only [stp, if_true, if_false, Int.reduceEq, Int.reduceLT, Int.reduceLE, Int.reduceGT, Int.reduceGE, reduceCtorEq, Nat.reduceEqDiff, List.getElem?_cons_zero, List.getElem?_cons_succ, Option.map_some, ha1, ha2, hld _ _ _ _ ht1, hld _ _ _ _ ht2, hcm]
      exact ⟨(), ⟨by trivial, by simpa using hacc⟩, .cons rfl (.cons rfl (.cons rfl (.cons rfl .nil)))⟩
    | false =>
      rw [he] at hacc hcm
      simp (maxSteps := 1000000) (implicitDefEqProofs := false) only [stp, if_true, if_false, Int.reduceEq, Int.reduceLT, Int.reduceLE, Int.reduceGT, Int.reduceGE, reduceCtorEq, Nat.reduceEqDiff, List.getElem?_cons_zero, List.getElem?_cons_succ, Option.map_some, ha1, ha2, hld _ _ _ _ ht1, hld _ _ _ _ ht2, hcm]
      exact ⟨by trivial, by rw [← hacc]; rfl⟩
  · rintro _ H' ⟨rfl, hacc⟩
    simp (maxSteps := 1000000) (implicitDefEqProofs := false) only [stp, if_true, if_false, Int.reduceEq, Int.reduceLT, Int.reduceLE, Int.reduceGT, Int.reduceGE, reduceCtorEq, Nat.reduceEqDiff, List.getElem?_cons_zero, List.getElem?_cons_succ, Option.map_some, if_true]
    rw [List.drop_length, List.drop_of_length_le (by omega)] at hacc
    exact ⟨by trivial, by rw [← hacc]; rfl⟩

def equalFuncFn (sz : Nat) (z : List V) : AFn := ⟨32,
 (.seq
  (.region [⟨some 6, none, .ex (.mov) [.k (.bool false)]⟩])
  (.seq
   (.seq
    (.region [⟨some 10, none, .ex (.mov) [.s 0]⟩,
      ⟨some 11, none, .ex (.len) [.s 10]⟩,
      ⟨some 12, none, .ex (.mov) [.s 1]⟩,
      ⟨some 13, none, .ex (.len) [.s 12]⟩,
      ⟨some 14, none, .ex (.ibin .neq) [.s 11, .s 13]⟩])
    (.cond (.s 14)
     (.seq
      (.region [⟨some 6, none, .ex (.mov) [.k (.bool false)]⟩])
      .ret)
     .skip))
   (.seq
    (.seq
     (.region [⟨some 15, none, .ex (.mov) [.s 0]⟩,
       ⟨some 16, none, .ex (.len) [.s 15]⟩,
       ⟨some 17, none, .ex (.mov) [.k (.int .i64 0)]⟩])
     (.block 0
      (.loop
       (.seq
        (.region [⟨some 18, none, .ex (.ibin .lss) [.s 17, .s 16]⟩])
        (.seq
         (.cond (.s 18)
          .skip
          (.exit 0))
         (.seq
          (.block 1
           (.seq
            (.region [⟨some 19, none, .ex (.mov) [.s 17]⟩,
              ⟨some 20, none, .ex (.ia sz) [.s 15, .s 17]⟩,
              ⟨some 21, none, .ex (.lda sz) [.s 20]⟩,
              ⟨some 8, none, .ex (.alloc z) []⟩,
              ⟨some 7, none, .ex (.mov) [.s 19]⟩,
              ⟨none, none, .ex (.st sz) [.s 8, .s 21]⟩])
            (.seq
             (.region [⟨some 22, none, .ex (.mov) [.s 1]⟩,
               ⟨some 23, none, .ex (.mov) [.s 7]⟩,
               ⟨some 24, none, .ex (.ia sz) [.s 22, .s 23]⟩,
               ⟨some 25, none, .ex (.lda sz) [.s 24]⟩,
               ⟨some 9, none, .ex (.alloc z) []⟩,
               ⟨none, none, .ex (.st sz) [.s 9, .s 25]⟩])
             (.seq
              (.region [⟨some 26, none, .ex (.mov) [.s 2]⟩,
                ⟨some 27, none, .ex (.lda sz) [.s 8]⟩,
                ⟨some 28, none, .ex (.lda sz) [.s 9]⟩,
                ⟨some 29, none, .callv (.s 26) [.s 27, .s 28]⟩,
                ⟨some 30, none, .ex (.bnot) [.s 29]⟩])
              (.cond (.s 30)
               (.seq
                (.region [⟨some 6, none, .ex (.mov) [.k (.bool false)]⟩])
                .ret)
               .skip)))))
          (.region [⟨some 31, none, .ex (.ibin .add) [.s 17, .k (.int .i64 1)]⟩,
            ⟨some 17, none, .ex (.mov) [.s 31]⟩])))))))
    (.seq
     (.region [⟨some 6, none, .ex (.mov) [.k (.bool true)]⟩])
     .ret)))),
 [.t 6]⟩
set_option maxRecDepth 20000 in
set_option maxHeartbeats 1000000 in
theorem equalFunc_gen {f g : FuncId} {sz : Nat} {z : List V} {α : Type} {enc : α → List V} {eq : α → α → Bool} (hc : compFn PP f = some (equalFuncFn sz z)) (hz : z.length = sz) (hzo : z.all V.one = true)
    {x y : V} {H : Heap} {us bs : List α} (hcall : ∀ H', Ext H H' → ∀ a ∈ us, ∀ b ∈ bs, SCalls PP g [.agg (enc a), .agg (enc b)] H' fun r H'' => H'' = H' ∧ r = .bool (eq a b))
    (hx : SL H x sz (us.map enc)) (hy : SL H y sz (bs.map enc)) (hl : us.length ≤ big) : SCalls PP f [x, y, .fn (.func g) [] []] H fun r H' => H' = H ∧ r = .bool (listEq eq us bs) := by
  refine SCalls.keep (R := fun r => r = .bool (listEq eq us bs)) (SCalls.go hc (by simp [equalFuncFn]) fun hw => ?_)
  unfold big at hl
  have hlx : ∀ G, exec .len [x] G = some (.int .i64 us.length, G) := fun G => by have := hx.len (H' := G); rwa [List.length_map] at this
  have hly : ∀ G, exec .len [y] G = some (.int .i64 bs.length, G) := fun G => by have := hy.len (H' := G); rwa [List.length_map] at this
  by_cases hne : (us.length : Int) = bs.length
  rotate_left
  · simp (maxSteps := 1000000) (implicitDefEqProofs := false) only [stp, if_true, if_false, Int.reduceEq, Int.reduceLT, Int.reduceLE, Int.reduceGT, Int.reduceGE, reduceCtorEq, Nat.reduceEqDiff, List.getElem?_cons_zero, List.getElem?_cons_succ, Option.map_some, equalFuncFn, enterFr, List.length, List.range, List.range.loop, List.zip, List.zipWith, hlx, hly, hne]
    exact ⟨Ext.refl H, by rw [listEq_len (by omega)], rfl⟩
  have hne' : us.length = bs.length := by omega
  simp (maxSteps := 1000000) (implicitDefEqProofs := false) only [stp, if_true, if_false, Int.reduceEq, Int.reduceLT, Int.reduceLE, Int.reduceGT, Int.reduceGE, reduceCtorEq, Nat.reduceEqDiff, List.getElem?_cons_zero, List.getElem?_cons_succ, Option.map_some, equalFuncFn, enterFr, List.length, List.range, List.range.loop, List.zip, List.zipWith, hlx, hly, hne]
  refine wp_range (len := us.length) SCalls.scMono (by omega) (fun _ : Unit => [(15, x), (0, x), (1, y), (2, .fn (.func g) [] [])]) (fun k _ H' => Ext H H' ∧ WF H' ∧ listEq eq (us.drop k) (bs.drop k) = listEq eq us bs) () ⟨Ext.refl H, hw, rfl⟩
    (.cons rfl (.cons (by rw [← hne]; rfl) (.cons rfl (.cons rfl (.cons rfl (.cons rfl .nil)))))) (by decide) (fun s => ⟨rfl, rfl, rfl⟩) ?_ ?_
  · rintro k _ H' hk ⟨hxx, hw', hacc⟩
    have hk2 : k < bs.length := by omega
    obtain ⟨i1, o1, ha1, ht1⟩ := (hx.ext hxx).ia (H' := H') (i := k) (e := enc us[k]) (by rw [List.getElem?_map, List.getElem?_eq_getElem hk]; rfl) .i64
    have e1 := hx.1 (enc us[k]) (List.mem_map_of_mem (List.getElem_mem hk))
    have e2 := hy.1 (enc bs[k]) (List.mem_map_of_mem (List.getElem_mem hk2))
    obtain ⟨H2, hx2, hw2, hat2, hal2, hst2⟩ := x_copy (Ext.refl H') hw' (z := z) (e := enc us[k]) (n := sz) hz hzo e1.1 e1.2
    obtain ⟨i2, o2, ha2, ht2⟩ := (hy.ext (hxx.trans hx2)).ia (H' := H2) (i := k) (e := enc bs[k]) (by rw [List.getElem?_map, List.getElem?_eq_getElem hk2]; rfl) .i64
    obtain ⟨H3, hx3, hw3, hat3, hal3, hst3⟩ := x_copy (Ext.refl H2) hw2 (z := z) (e := enc bs[k]) (n := sz) hz hzo e2.1 e2.2
    have la := (hat2.ext hx3).lda (n := sz) e1.1.symm
    have lb := hat3.lda (n := sz) e2.1.symm
    have hx03 := hxx.trans (hx2.trans hx3)
    rw [List.drop_eq_getElem_cons hk, List.drop_eq_getElem_cons hk2] at hacc
    simp only [listEq] at hacc
    have hne9 : ¬ (8 = 9) := by decide
    simp (maxSteps := 1000000) (implicitDefEqProofs := false) only [stp, if_true, if_false, Int.reduceEq, Int.reduceLT, Int.reduceLE, Int.reduceGT, Int.reduceGE, reduceCtorEq, Nat.reduceEqDiff, List.getElem?_cons_zero, List.getElem?_cons_succ, Option.map_some, ha1, ht1.lda (n := sz) e1.1.symm, hal2, hst2, ha2, ht2.lda (n := sz) e2.1.symm, hal3, hst3, la, lb, List.nil_append, List.append_nil]
    refine SCalls.mono (hcall H3 hx03 us[k] (List.getElem_mem hk) bs[k] (List.getElem_mem hk2)) ?_
    rintro r H4 ⟨rfl, rfl⟩
    cases he : eq us[k] bs[k] with
    | true =>
      rw [he] at hacc
      simp (maxSteps := 1000000) (implicitDefEqProofs := false) only [stp, if_true, if_false, Int.reduceEq, Int.reduceLT, Int.reduceLE, Int.reduceGT, Int.reduceGE, reduceCtorEq, Nat.reduceEqDiff, List.getElem?_cons_zero, List.getElem?_cons_succ, Option.map_some, he]
      exact ⟨(), ⟨hx03, hw3, by simpa using hacc⟩, .cons rfl (.cons rfl (.cons rfl (.cons rfl (.cons rfl (.cons rfl .nil)))))⟩
    | false =>
      rw [he] at hacc
      simp (maxSteps := 1000000) (implicitDefEqProofs := false) only [stp, if_true, if_false, Int.reduceEq, Int.reduceLT, Int.reduceLE, Int.reduceGT, Int.reduceGE, reduceCtorEq, Nat.reduceEqDiff, List.getElem?_cons_zero, List.getElem?_cons_succ, Option.map_some, he]
      exact ⟨hx03, by rw [← hacc]; rfl, rfl⟩
  · rintro _ H' ⟨hxx, hw', hacc⟩
    simp (maxSteps := 1000000) (implicitDefEqProofs := false) only [stp, if_true, if_false, Int.reduceEq, Int.reduceLT, Int.reduceLE, Int.reduceGT, Int.reduceGE, reduceCtorEq, Nat.reduceEqDiff, List.getElem?_cons_zero, List.getElem?_cons_succ, Option.map_some, if_true]
    rw [List.drop_length, List.drop_of_length_le (by omega)] at hacc
    exact ⟨hxx, by rw [← hacc]; rfl, rfl⟩

/-! ### The program's data -/
def valEq (a b : ValA) : Bool := (a.kind == b.kind) && ((a.n == b.n) && ((a.f == b.f) && (a.s.toList == b.s.toList)))
def attrEq (a b : AttrA) : Bool := (a.key == b.key) && valEq a.val b.val
def chgEq (a b : ChgA) : Bool := (a.key == b.key) && ((a.gone == b.gone) && valEq a.val b.val)
theorem valEq_iff {a b : ValA} : valEq a b = true ↔ a = b := by
  cases a; cases b
  simp only [valEq, Bool.and_eq_true, beq_iff_eq, ValA.mk.injEq]
  constructor
  · rintro ⟨h1, h2, h3, h4⟩
    refine ⟨h1, h2, h3, ?_⟩
    rename_i s _ _ _ s'
    cases s; cases s'
    rw [ByteArray.toList_eq, ByteArray.toList_eq] at h4
    congr 1
    exact Array.toList_inj.1 h4
  · rintro ⟨h1, h2, h3, h4⟩
    exact ⟨h1, h2, h3, by rw [h4]⟩
theorem attrEq_iff {a b : AttrA} : attrEq a b = true ↔ a = b := by
  cases a; cases b
  simp only [attrEq, Bool.and_eq_true, beq_iff_eq, valEq_iff, AttrA.mk.injEq]
theorem chgEq_iff {a b : ChgA} : chgEq a b = true ↔ a = b := by
  cases a; cases b
  simp only [chgEq, Bool.and_eq_true, beq_iff_eq, valEq_iff, ChgA.mk.injEq]
theorem x_eqattr (a b : AttrA) (H : Heap) : exec (.eqagg true [0, 0, 0, 0, 2]) [.agg a.cells, .agg b.cells] H = some (.bool (!attrEq a b), H) := by
  simp only [exec, AttrA.cells, ValA.cells, sameL, V.sameK, if_true, Option.map_some, attrEq, valEq, Bool.and_true]
  simp only [Bool.bne_true, Option.getD_some, Bool.and_true]
theorem x_eqchg (a b : ChgA) (H : Heap) : exec (.eqagg true [0, 1, 0, 0, 0, 2]) [.agg a.cells, .agg b.cells] H = some (.bool (!chgEq a b), H) := by
  simp only [exec, ChgA.cells, ValA.cells, sameL, V.sameK, if_true, Option.map_some, chgEq, valEq, Bool.and_true]
  simp only [Bool.bne_true, Option.getD_some, Bool.and_true]

def runeEq (a b : Int) : Bool := decide (a = b)
theorem equalA_calls {x y : V} {H : Heap} {us bs : List AttrA} (hx : SL H x 5 (us.map AttrA.cells)) (hy : SL H y 5 (bs.map AttrA.cells)) (hl : us.length ≤ big) :
    SCalls PP 131 [x, y] H fun r H' => H' = H ∧ r = .bool (listEq attrEq us bs) :=
  equal_gen (enc := AttrA.cells) (ldv := fun a => V.agg a.cells) (show compFn PP 131 = some (equalFn 5 (.lda 5) (.eqagg true [0, 0, 0, 0, 2])) from c131) (fun a H id o h => h.lda (n := 5) rfl) (fun a _ b _ H => x_eqattr a b H) hx hy hl
theorem equalC_calls {x y : V} {H : Heap} {us bs : List ChgA} (hx : SL H x 6 (us.map ChgA.cells)) (hy : SL H y 6 (bs.map ChgA.cells)) (hl : us.length ≤ big) :
    SCalls PP 130 [x, y] H fun r H' => H' = H ∧ r = .bool (listEq chgEq us bs) :=
  equal_gen (enc := ChgA.cells) (ldv := fun a => V.agg a.cells) (show compFn PP 130 = some (equalFn 6 (.lda 6) (.eqagg true [0, 1, 0, 0, 0, 2])) from c130) (fun a H id o h => h.lda (n := 6) rfl) (fun a _ b _ H => x_eqchg a b H) hx hy hl
theorem attrsSame_calls {x y : V} {H : Heap} {us bs : List AttrA} (hx : SL H x 5 (us.map AttrA.cells)) (hy : SL H y 5 (bs.map AttrA.cells)) (hl : us.length ≤ big) :
    SCalls PP 121 [x, y] H fun r H' => H' = H ∧ r = .bool (listEq attrEq us bs) := by
  refine SCalls.go c121 (by simp [fn121]) fun hw => ?_
  simp (maxSteps := 1000000) (implicitDefEqProofs := false) only [stp, if_true, if_false, Int.reduceEq, Int.reduceLT, Int.reduceLE, Int.reduceGT, Int.reduceGE, reduceCtorEq, Nat.reduceEqDiff, List.getElem?_cons_zero, List.getElem?_cons_succ, Option.map_some, fn121, enterFr, List.length, List.range, List.range.loop, List.zip, List.zipWith]
  refine SCalls.mono (equalA_calls hx hy hl) ?_
  rintro r H' ⟨rfl, rfl⟩
  simp (maxSteps := 1000000) (implicitDefEqProofs := false) only [stp, if_true, if_false, Int.reduceEq, Int.reduceLT, Int.reduceLE, Int.reduceGT, Int.reduceGE, reduceCtorEq, Nat.reduceEqDiff, List.getElem?_cons_zero, List.getElem?_cons_succ, Option.map_some, if_true]
  exact ⟨by trivial, by trivial⟩
theorem patchSame_calls {x y : V} {H : Heap} {us bs : List ChgA} (hx : SL H x 6 (us.map ChgA.cells)) (hy : SL H y 6 (bs.map ChgA.cells)) (hl : us.length ≤ big) :
    SCalls PP 120 [x, y] H fun r H' => H' = H ∧ r = .bool (listEq chgEq us bs) := by
  refine SCalls.go c120 (by simp [fn120]) fun hw => ?_
  simp (maxSteps := 1000000) (implicitDefEqProofs := false) only [stp, if_true, if_false, Int.reduceEq, Int.reduceLT, Int.reduceLE, Int.reduceGT, Int.reduceGE, reduceCtorEq, Nat.reduceEqDiff, List.getElem?_cons_zero, List.getElem?_cons_succ, Option.map_some, fn120, enterFr, List.length, List.range, List.range.loop, List.zip, List.zipWith]
  refine SCalls.mono (equalC_calls hx hy hl) ?_
  rintro r H' ⟨rfl, rfl⟩
  simp (maxSteps := 1000000) (implicitDefEqProofs := false) only [stp, if_true, if_false, Int.reduceEq, Int.reduceLT, Int.reduceLE, Int.reduceGT, Int.reduceGE, reduceCtorEq, Nat.reduceEqDiff, List.getElem?_cons_zero, List.getElem?_cons_succ, Option.map_some, if_true]
  exact ⟨by trivial, by trivial⟩
end Go.Proofs.YtkmaikggdbielaaGreatDoor.Fw

/- A maker of normal deltas as it lies. No condition. -/
namespace Go.Proofs.YtkmaikggdbielaaGreatDoor.Fw
open Go
set_option linter.unusedSimpArgs false
set_option linter.unusedVariables false

/-! ### Content -/
structure OpC where
  kind : Int
  n : Int
  rs : List Int
  ats : List AttrA
  chs : List ChgA
def OpA.con (o : OpA) : OpC := ⟨o.kind, o.n, o.rs, o.ats, o.chs⟩
structure OpC.Ok (c : OpC) : Prop where
  rl : c.rs.length ≤ big
  al : c.ats.length ≤ big
  cl : c.chs.length ≤ big
  sa : ∀ a ∈ c.ats, a.val.s.size ≤ big
  sc : ∀ a ∈ c.chs, a.val.s.size ≤ big
  nlo : -9223372036854775808 ≤ c.n
  nhi : c.n ≤ 9223372036854775807
theorem OpA.In.ok {H : Heap} {o : OpA} (h : o.In H) : o.con.Ok := ⟨h.rl, h.al, h.cl, h.sa, h.sc, h.nlo, h.nhi⟩

theorem st_cell {H : Heap} {p esz k : Nat} {cells : List V} {v : V} (hg : H.get p = some (.row false esz cells)) (hk : k < cells.length) (hv : v.cells = [v]) (ho : v.one = true) : exec (.st 1) [.ptr p k, v] H = some (.undef, H.set p (.row false esz (cells.set k v))) := by
  have hs : splice cells k [v] = cells.set k v := by
    unfold splice
    rw [List.set_eq_take_append_cons_drop, if_pos hk]
    simp
  have hw : writeAt H p k [v] = some (H.set p (.row false esz (cells.set k v))) := by
    unfold writeAt
    rw [hg]
    simp only
    rw [if_pos ⟨by simp; omega, by simp [ho]⟩, hs]
  show (if v.cells.length = 1 then (writeAt H p k v.cells).map (V.undef, ·) else none) = _
  rw [hv, if_pos (show [v].length = 1 from rfl), hw]
  rfl
theorem SL.empty {H H' : Heap} {x : V} {sz : Nat} (h : SL H x sz []) (hn : H.next ≤ H'.next) : SL H' x sz [] := by
  obtain ⟨h0, ⟨rfl, _⟩ | ⟨id, off, cap, e1, e2, e3⟩⟩ := h
  · exact ⟨h0, .inl ⟨rfl, rfl⟩⟩
  · exact ⟨h0, .inr ⟨id, off, cap, e1, Nat.lt_of_lt_of_le e2 hn, fun i e he => by simp at he⟩⟩
/-- A fresh vector stays. -/
theorem Vec.fz {M : Nat → Prop} {G H : Heap} {r : V} {sz : Nat} {es : List (List V)} {k : Option Nat} (h : Vec G r sz es k) (h0 : k = none → es = []) (hn : G.next ≤ H.next) (hk : ∀ j, k = some j → ¬ M j ∧ H.get j = G.get j) : Fz M H fun H' => SL H' r sz es := by
  intro H' hx
  cases k with
  | none =>
    have := h0 rfl
    subst this
    exact h.sl.empty (Nat.le_trans hn hx.next)
  | some j =>
    obtain ⟨h1, h2⟩ := hk j rfl
    exact (h.keep (H' := H') (Nat.le_trans hn hx.next) (fun i e => by cases e; rw [hx.get j (Nat.lt_of_lt_of_le h.lt hn) h1, h2]) (fun e => by cases e)).sl

/-! ### Ops as they lie -/
/-- An op that stays. -/
def OpZ (M : Nat → Prop) (H : Heap) (e : List V) (c : OpC) : Prop := ∃ o : OpA, e = o.cells ∧ o.con = c ∧ Fz M H fun H' => o.In H'
theorem OpZ.step {M M' : Nat → Prop} {H H' : Heap} {e : List V} {c : OpC} (h : OpZ M H e c) (k : ExtM M H H') (g : MGrow M M' H) : OpZ M' H' e c := by
  obtain ⟨o, h1, h2, h3⟩ := h
  exact ⟨o, h1, h2, h3.step k g⟩
/-- The last insert: its runes may grow. -/
structure LastZ (M : Nat → Prop) (H : Heap) (e : List V) (c : OpC) (r : Nat) : Prop where
  sh : ∃ sv, e = [.int .u8 2, .int .i64 0, .slice r 0 c.rs.length none, sv, .nils] ∧ Fz M H fun H' => SL H' sv 5 (c.ats.map AttrA.cells)
  own : Own H r 1 (c.rs.map fun x => [V.int .i32 x])
  mr : M r
  ok : c.Ok
  ne : c.rs ≠ []
  is : c.kind = 2 ∧ c.n = 0 ∧ c.chs = []
theorem LastZ.to {M M' : Nat → Prop} {H : Heap} {e : List V} {c : OpC} {r : Nat} (h : LastZ M H e c r) (hm : ∀ j, M' j → M j ∨ H.next ≤ j) (hr : ¬ M' r) : OpZ M' H e c := by
  obtain ⟨sv, he, hs⟩ := h.sh
  obtain ⟨k1, k2, k3⟩ := h.is
  refine ⟨⟨2, 0, .slice r 0 c.rs.length none, sv, .nils, c.rs, c.ats, []⟩, he, ?_, fun H' hx => ?_⟩
  · cases c; simp_all [OpA.con]
  · have hown := h.own.extM hx hr
    refine ⟨?_, hs _ ((ExtM.refl M H).step hm hx), ⟨by simp, .inl ⟨rfl, rfl⟩⟩, h.ok.rl, h.ok.al, by simp, h.ok.sa, by simp, by simp, by simp⟩
    have := hown.sl none
    rwa [List.length_map] at this
theorem LastZ.step {M M' : Nat → Prop} {H H' : Heap} {e : List V} {c : OpC} {r : Nat} (h : LastZ M H e c r) (k : ExtM M H H') (g : MGrow M M' H) (hr : H'.get r = H.get r) (hm : M' r) : LastZ M' H' e c r := by
  obtain ⟨sv, he, hs⟩ := h.sh
  exact ⟨⟨sv, he, hs.step k g⟩, ⟨Nat.lt_of_lt_of_le h.own.lt k.next, by rw [hr]; exact h.own.get, h.own.len⟩, hm, h.ok, h.ne, h.is⟩
theorem LastZ.sl {M : Nat → Prop} {H : Heap} {e : List V} {c : OpC} {r : Nat} (h : LastZ M H e c r) : ∃ o : OpA, e = o.cells ∧ o.con = c ∧ o.In H := by
  obtain ⟨sv, he, hs⟩ := h.sh
  obtain ⟨k1, k2, k3⟩ := h.is
  refine ⟨⟨2, 0, .slice r 0 c.rs.length none, sv, .nils, c.rs, c.ats, []⟩, he, ?_, ?_⟩
  · cases c; simp_all [OpA.con]
  · refine ⟨?_, hs.here, ⟨by simp, .inl ⟨rfl, rfl⟩⟩, h.ok.rl, h.ok.al, by simp, h.ok.sa, by simp, by simp, by simp⟩
    have := h.own.sl none
    rwa [List.length_map] at this

def All2 {α β : Type} (R : α → β → Prop) : List α → List β → Prop
  | [], [] => True
  | a :: l, b :: k => R a b ∧ All2 R l k
  | _, _ => False
theorem All2.imp {α β : Type} {R S : α → β → Prop} (h : ∀ a b, R a b → S a b) : ∀ {l : List α} {k : List β}, All2 R l k → All2 S l k
  | [], [], _ => trivial
  | a :: l, b :: k, ⟨h1, h2⟩ => ⟨h a b h1, All2.imp h h2⟩
  | [], b :: k, q => q.elim
  | a :: l, [], q => q.elim
theorem All2.append {α β : Type} {R : α → β → Prop} : ∀ {l l' : List α} {k k' : List β}, All2 R l k → All2 R l' k' → All2 R (l ++ l') (k ++ k')
  | [], l', [], k', _, q => q
  | a :: l, l', b :: k, k', ⟨h1, h2⟩, q => ⟨h1, All2.append h2 q⟩
  | [], _, b :: k, _, q, _ => q.elim
  | a :: l, _, [], _, q, _ => q.elim
theorem All2.length {α β : Type} {R : α → β → Prop} : ∀ {l : List α} {k : List β}, All2 R l k → l.length = k.length
  | [], [], _ => rfl
  | a :: l, b :: k, ⟨_, h2⟩ => by simp [All2.length h2]
  | [], b :: k, q => q.elim
  | a :: l, [], q => q.elim

/-! ### Two ops -/
def opEq (a b : OpC) : Bool := decide (a.kind = b.kind) && (decide (a.n = b.n) && (listEq runeEq a.rs b.rs && (listEq attrEq a.ats b.ats && listEq chgEq a.chs b.chs)))
theorem runeEq_iff {a b : Int} : runeEq a b = true ↔ a = b := by simp [runeEq]
theorem opEq_iff {a b : OpC} : opEq a b = true ↔ a = b := by
  cases a; cases b
  simp only [opEq, Bool.and_eq_true, decide_eq_true_eq, OpC.mk.injEq, listEq_iff fun a _ b _ => runeEq_iff, listEq_iff fun a _ b _ => attrEq_iff, listEq_iff fun a _ b _ => chgEq_iff]
theorem listEq_map {α β : Type} (e : β → β → Bool) (f : α → β) : ∀ (us bs : List α), listEq (fun a b => e (f a) (f b)) us bs = listEq e (us.map f) (bs.map f)
  | [], [] => rfl
  | [], b :: bs => rfl
  | a :: us, [] => rfl
  | a :: us, b :: bs => by simp only [listEq, List.map_cons, listEq_map e f us bs]

/-- The maker's content. -/
structure MkC where
  done : List OpC
  ins : List OpC
  gone : Int
/-- The inserts of the gap. -/
def InsZ (M : Nat → Prop) (H : Heap) (ics : List (List V)) (ins : List OpC) (rk : Option Nat) : Prop :=
  (ics = [] ∧ ins = [] ∧ rk = none) ∨ ∃ ei el ci cl r, ics = ei ++ [el] ∧ ins = ci ++ [cl] ∧ rk = some r ∧ All2 (OpZ M H) ei ci ∧ LastZ M H el cl r
structure MkP (H : Heap) (M : Nat → Prop) (p : Nat) (m : MkC) (dv iv : V) (dcs ics : List (List V)) (dk ik rk : Option Nat) : Prop where
  lt : p < H.next
  mp : M p
  mb : ∀ j, M j → j < H.next
  at' : H.get p = some (.row false 3 [dv, iv, .int .i64 m.gone])
  dvec : Vec H dv 5 dcs dk
  ivec : Vec H iv 5 ics ik
  md : ∀ j, dk = some j → M j ∧ j ≠ p
  mi : ∀ j, ik = some j → M j ∧ j ≠ p
  di : ∀ j, dk = some j → ik ≠ some j
  mr : ∀ j, rk = some j → j ≠ p ∧ dk ≠ some j ∧ ik ≠ some j
  done : All2 (OpZ M H) dcs m.done
  ins : InsZ M H ics m.ins rk
  dn : dk = none → dcs = []
  inn : ik = none → ics = []
def MkI (H : Heap) (M : Nat → Prop) (p : Nat) (m : MkC) : Prop := ∃ dv iv dcs ics dk ik rk, MkP H M p m dv iv dcs ics dk ik rk
theorem MkP.at3 {H : Heap} {M : Nat → Prop} {p : Nat} {m : MkC} {dv iv : V} {dcs ics : List (List V)} {dk ik rk : Option Nat} (h : MkP H M p m dv iv dcs ics dk ik rk) : At H p 0 [dv, iv, .int .i64 m.gone] :=
  ⟨h.lt, false, 3, _, h.at', by simp, fun j v hj => by rw [Nat.zero_add]; exact hj⟩

/-- A new insert behind. -/
theorem insert_new {H G : Heap} {M : Nat → Prop} {p : Nat} {m : MkC} {dv iv : V} {dcs ics : List (List V)} {dk ik rk : Option Nat} (h : MkP H M p m dv iv dcs ics dk ik rk) (hx : Ext H G) (hw : WF G) {rj : Nat} {sv : V} {rs : List Int} {ats : List AttrA} {sk : Option Nat}
    (hr : Own G rj 1 (rs.map fun x => [V.int .i32 x])) (hrj : H.next ≤ rj) (hs : Vec G sv 5 (ats.map AttrA.cells) sk) (hs0 : sk = none → ats = []) (hsj : ∀ j, sk = some j → H.next ≤ j ∧ j ≠ rj) (hne : rs ≠ [])
    (hok : OpC.Ok ⟨2, 0, rs, ats, []⟩) (hl : m.ins.length + 1 ≤ big) :
    ∃ iv' H3 H4 H5 M', exec (.bsl 5 1 [.int .u8 0, .int .i64 0, .nils, .nils, .nils] [(0, 5)]) [.agg [.int .u8 2, .int .i64 0, .slice rj 0 rs.length none, sv, .nils]] G = some (.slice G.next 0 1 (some 1), H3) ∧
      exec (.app 5 88) [iv, .slice G.next 0 1 (some 1)] H3 = some (iv', H4) ∧ exec (.st 1) [.ptr p (0 + 1), iv'] H4 = some (.undef, H5) ∧
      MkI H5 M' p ⟨m.done, m.ins ++ [⟨2, 0, rs, ats, []⟩], m.gone⟩ ∧ ExtM M H H5 ∧ MGrow M M' H ∧ WF H5 := by
  unfold big at hl
  have hso := hs.one
  have hcell : ([.int .u8 2, .int .i64 0, .slice rj 0 rs.length none, sv, .nils] : List V).all V.one = true := by
    simp only [List.all_cons, List.all_nil, Bool.and_true, hso.1]
    rfl
  have hb : exec (.bsl 5 1 [.int .u8 0, .int .i64 0, .nils, .nils, .nils] [(0, 5)]) [.agg [.int .u8 2, .int .i64 0, .slice rj 0 rs.length none, sv, .nils]] G = some (.slice G.next 0 1 (some 1), G.new (.row false 5 [.int .u8 2, .int .i64 0, .slice rj 0 rs.length none, sv, .nils])) := by
    have hf : fillA [V.int .u8 0, .int .i64 0, .nils, .nils, .nils] [((0, 5), .agg [.int .u8 2, .int .i64 0, .slice rj 0 rs.length none, sv, .nils])] = some [.int .u8 2, .int .i64 0, .slice rj 0 rs.length none, sv, .nils] := by
      simp only [fillA]
      rfl
    simp only [exec, List.length_cons, List.length_nil, if_true, List.zip_cons_cons, List.zip_nil_right, hf, Option.bind_some, hcell]
  generalize hel : ([.int .u8 2, .int .i64 0, .slice rj 0 rs.length none, sv, .nils] : List V) = el at *
  have hell : el.length = 5 := by rw [← hel]; rfl
  have hx3 : Ext G (G.new (.row false 5 el)) := (Ext.refl G).new _
  have hw3 : WF (G.new (.row false 5 el)) := hw.new _
  have hown3 : Own (G.new (.row false 5 el)) G.next 5 [el] := ⟨Nat.lt_succ_self _, by rw [new_get]; simp, by simpa using ⟨hell, by simpa using hcell⟩⟩
  obtain ⟨s1, s2⟩ := (hown3.sl (some 1)).src (by simp)
  have hg3 := new_get G (.row false 5 el)
  have hn3 : (G.new (.row false 5 el)).next = G.next + 1 := rfl
  generalize hG3 : G.new (.row false 5 el) = G3 at *
  have hiv3 := (h.ivec.ext hx).ext hx3
  have hil : ics.length = m.ins.length := by
    rcases h.ins with ⟨rfl, e, _⟩ | ⟨ei, el', ci, cl, r, rfl, e, _, ha, _⟩
    · rw [e]; rfl
    · rw [e, List.length_append, List.length_append, ha.length]; rfl
  obtain ⟨H4, ha, hv4, ho4, hw4, hn4, hgn4, hk4⟩ := hiv3.app (bytes := 88) (n := 1) (news := [el]) hw3 (by decide) rfl (by decide) (by simpa using s1) (by simpa using s2) (fun e he => by simp at he; subst he; exact ⟨hell, hcell⟩) (by omega) (by omega)
  have hpG : G.get p = H.get p := hx.get p h.lt
  have hxn := hx.next
  have hp4 : H4.get p = some (.row false 3 [dv, iv, .int .i64 m.gone]) := by
    rw [hk4 p (by have := h.lt; omega) (fun e => (h.mi p e).2 rfl), hx3.get p (by have := h.lt; omega), hpG]; exact h.at'
  have hst := st_cell (v := .slice G3.next 0 (ics.length + 1) none) hp4 (k := 1) (by simp) rfl rfl
  have hxx : ∀ j, j < G.next → ik ≠ some j → j ≠ p → (H4.set p (.row false 3 ([dv, iv, V.int .i64 m.gone].set 1 (.slice G3.next 0 (ics.length + 1) none)))).get j = G.get j := fun j hj h1 h2 => by
    rw [Heap.set_get, if_neg h2, hk4 j (by omega) h1, hx3.get j hj]
  have hM : ExtM M H (H4.set p (.row false 3 ([dv, iv, V.int .i64 m.gone].set 1 (.slice G3.next 0 (ics.length + 1) none)))) := by
    refine ⟨by rw [Heap.set_gn, hgn4, hx3.gn, hx.gn], by rw [Heap.set_next]; omega, fun j hj hm => ?_⟩
    rw [hxx j (by omega) (fun e => hm (h.mi j e).1) (fun e => hm (by rw [e]; exact h.mp))]
    exact hx.get j hj
  have hG : MGrow M (fun j => (M j ∧ rk ≠ some j) ∨ j = G3.next ∨ j = rj) H := fun j hj => by
    rcases hj with ⟨q, _⟩ | q | q
    · exact .inl q
    · exact .inr (by omega)
    · exact .inr (by omega)
  refine ⟨_, _, H4, _, fun j => (M j ∧ rk ≠ some j) ∨ j = G3.next ∨ j = rj, hb, ha, hst, ?_, hM, hG, hw4.set hp4 _⟩
  have hp5 : (H4.set p (.row false 3 ([dv, iv, V.int .i64 m.gone].set 1 (.slice G3.next 0 (ics.length + 1) none)))).get p = some (.row false 3 [dv, .slice G3.next 0 (ics.length + 1) none, .int .i64 m.gone]) := set_get' _ _ _
  have hi5 : (H4.set p (.row false 3 ([dv, iv, V.int .i64 m.gone].set 1 (.slice G3.next 0 (ics.length + 1) none)))).get G3.next = H4.get G3.next := by rw [Heap.set_get, if_neg (by have := h.lt; omega)]
  have hn5 : (H4.set p (.row false 3 ([dv, iv, V.int .i64 m.gone].set 1 (.slice G3.next 0 (ics.length + 1) none)))).next = H4.next := rfl
  generalize H4.set p (.row false 3 ([dv, iv, V.int .i64 m.gone].set 1 (.slice G3.next 0 (ics.length + 1) none))) = H5 at *
  have hrlt := hr.lt
  have hpl := h.lt
  have hdl : ∀ j, dk = some j → j < H.next := fun j e => by have := h.dvec; rw [e] at this; exact this.lt
  have hil' : ∀ j, ik = some j → j < H.next := fun j e => by have := h.ivec; rw [e] at this; exact this.lt
  have hrl' : ∀ j, rk = some j → j < H.next := fun j e => by
    rcases h.ins with ⟨_, _, q⟩ | ⟨_, _, _, _, r, _, _, q, _, hz⟩
    · rw [q] at e; cases e
    · rw [q] at e; cases e; exact hz.own.lt
  refine ⟨dv, .slice G3.next 0 (ics.length + 1) none, dcs, ics ++ [el], dk, some G3.next, some rj, by omega, .inl ⟨h.mp, fun e => (h.mr p e).1 rfl⟩, fun j hj => ?_, hp5, ?_, ?_, ?_, ?_, ?_, ?_, ?_, ?_, h.dn, by simp⟩
  · rcases hj with ⟨q, _⟩ | q | q
    · have := h.mb j q; omega
    · omega
    · omega
  · -- done's vector
    refine h.dvec.keep (by omega) (fun j e => ?_) (fun e s => ?_)
    · rw [hxx j (by have := hdl j e; omega) (h.di j e) (h.md j e).2]
      exact hx.get j (hdl j e)
    · rw [h.dn e] at s ⊢
      exact s.empty (by omega)
  · refine hv4.keep (by omega) (fun j e => ?_) (fun e => by cases e)
    cases e
    exact hi5
  · intro j e
    exact ⟨.inl ⟨(h.md j e).1, fun q => (h.mr j q).2.1 e⟩, (h.md j e).2⟩
  · intro j e
    cases e
    exact ⟨.inr (.inl rfl), by omega⟩
  · intro j e q
    cases q
    have := hdl _ e
    omega
  · intro j e
    cases e
    refine ⟨by omega, fun q => ?_, fun q => ?_⟩
    · have := hdl _ q; omega
    · cases q; omega
  · exact All2.imp (fun a b q => q.step hM hG) h.done
  · -- the inserts
    refine .inr ?_
    have hfr : Fz (fun j => (M j ∧ rk ≠ some j) ∨ j = G3.next ∨ j = rj) H5 fun H' => SL H' sv 5 (ats.map AttrA.cells) := by
      refine hs.fz (fun e => by rw [hs0 e]; rfl) (by omega) fun j e => ?_
      have hjl : j < G.next := by rw [e] at hs; exact hs.lt
      obtain ⟨q1, q2⟩ := hsj j e
      refine ⟨?_, hxx j hjl (fun q => ?_) (by omega)⟩
      · rintro (⟨q, _⟩ | q | q)
        · have := h.mb j q; omega
        · omega
        · exact q2 q
      · have := hil' j q; omega
    have hlast : LastZ (fun j => (M j ∧ rk ≠ some j) ∨ j = G3.next ∨ j = rj) H5 el ⟨2, 0, rs, ats, []⟩ rj :=
      ⟨⟨sv, hel.symm, hfr⟩, ⟨by omega, by rw [hxx rj hrlt (fun q => by have := hil' rj q; omega) (by omega)]; exact hr.get, hr.len⟩, .inr (.inr rfl), hok, hne, rfl, rfl, rfl⟩
    rcases h.ins with ⟨rfl, e, _⟩ | ⟨ei, el', ci, cl, r, rfl, e, er, ha2, hz⟩
    · exact ⟨[], el, [], _, rj, rfl, by rw [e], rfl, trivial, hlast⟩
    · refine ⟨ei ++ [el'], el, ci ++ [cl], _, rj, rfl, by rw [e], rfl, All2.append (All2.imp (fun a b q => q.step hM hG) ha2) ⟨?_, trivial⟩, hlast⟩
      have hr5 : H5.get r = H.get r := by
        rw [hxx r (by have := hrl' r er; omega) (h.mr r er).2.2 (h.mr r er).1]
        exact hx.get r (hrl' r er)
      have hz2 : OpZ (fun j => M j ∧ rk ≠ some j) H el' cl := hz.to (fun j hj => .inl hj.1) (fun hj => hj.2 er)
      refine hz2.step ⟨hM.gn, hM.next, fun j hj hm => ?_⟩ (fun j hj => ?_)
      · by_cases hjr : rk = some j
        · rw [er] at hjr; cases hjr; exact hr5
        · exact hM.get j hj fun q => hm ⟨q, hjr⟩
      · rcases hj with q | q | q
        · exact .inl q
        · exact .inr (by omega)
        · exact .inr (by omega)
end Go.Proofs.YtkmaikggdbielaaGreatDoor.Fw

/- A history as it lies; whether it is there, open, how deep. No condition. -/
namespace Go.Proofs.YtkmaikggdbielaaGreatDoor.Fw
open Go
set_option linter.unusedSimpArgs false
set_option linter.unusedVariables false

/-- A group's content: what was done, what undoes it. -/
structure GrpC where
  dn : List OpC
  un : List OpC
structure HistC where
  max : Int
  undo : List GrpC
  redo : List GrpC
  opened : Bool
  own : List GrpC
/-- A group that stays. -/
def GrpZ (M : Nat → Prop) (H : Heap) (e : List V) (g : GrpC) : Prop :=
  ∃ d u os us, e = [d, u] ∧ os.map OpA.con = g.dn ∧ us.map OpA.con = g.un ∧ (Fz M H fun G => OpsIn G d os) ∧ (Fz M H fun G => OpsIn G u us)
theorem GrpZ.step {M M' : Nat → Prop} {H H' : Heap} {e : List V} {g : GrpC} (h : GrpZ M H e g) (k : ExtM M H H') (q : MGrow M M' H) : GrpZ M' H' e g := by
  obtain ⟨d, u, os, us, h1, h2, h3, h4, h5⟩ := h
  exact ⟨d, u, os, us, h1, h2, h3, h4.step k q, h5.step k q⟩
/-- A stack: its groups; k: the row that an append takes over. -/
structure StZ (M : Nat → Prop) (H : Heap) (v : V) (es : List (List V)) (gs : List GrpC) (k : Option Nat) : Prop where
  vec : Vec H v 2 es k
  st : k = none → Fz M H fun G => SL G v 2 es
  own : ∀ j, k = some j → M j
  grp : All2 (GrpZ M H) es gs
structure HistP (H : Heap) (M : Nat → Prop) (p : Nat) (s : V) (h : HistC) (uv rv ov : V) (ue re oe : List (List V)) (uk rk ok : Option Nat) : Prop where
  lt : p < H.next
  mp : M p
  mb : ∀ j, M j → j < H.next
  at' : H.get p = some (.row false 7 [s, .int .i64 h.max, .bool true, uv, rv, .bool h.opened, ov])
  us : StZ M H uv ue h.undo uk
  rs : StZ M H rv re h.redo rk
  os : StZ M H ov oe h.own ok
  kp : ∀ j, uk = some j ∨ rk = some j ∨ ok = some j → j ≠ p
  ur : ∀ j, uk = some j → rk ≠ some j ∧ ok ≠ some j
  ro : ∀ j, rk = some j → ok ≠ some j
def HistI (H : Heap) (M : Nat → Prop) (p : Nat) (s : V) (h : HistC) : Prop := ∃ uv rv ov ue re oe uk rk ok, HistP H M p s h uv rv ov ue re oe uk rk ok
/-- The same; N: what is nobody's of the history's, and may be written by anyone. -/
def HistD (H : Heap) (M N : Nat → Prop) (p : Nat) (s : V) (h : HistC) : Prop :=
  ∃ uv rv ov ue re oe uk rk ok, HistP H M p s h uv rv ov ue re oe uk rk ok ∧ ∀ j, N j → M j ∧ j ≠ p ∧ uk ≠ some j ∧ rk ≠ some j ∧ ok ≠ some j
theorem HistD.toI {H : Heap} {M N : Nat → Prop} {p : Nat} {s : V} {h : HistC} (q : HistD H M N p s h) : HistI H M p s h := by
  obtain ⟨uv, rv, ov, ue, re, oe, uk, rk, ok, q, _⟩ := q
  exact ⟨uv, rv, ov, ue, re, oe, uk, rk, ok, q⟩
/-- The history after a call: what is nobody's of it stays. -/
def HistS (H : Heap) (M N : Nat → Prop) (p : Nat) (s : V) (H' : Heap) (h' : HistC) : Prop :=
  ∃ M', HistD H' M' N p s h' ∧ ExtM (fun j => M j ∧ ¬ N j) H H' ∧ MGrow M M' H
theorem ExtM.minus {M N : Nat → Prop} {H H' : Heap} (h : ExtM M H H') (k : ∀ j, j < H.next → N j → H'.get j = H.get j) : ExtM (fun j => M j ∧ ¬ N j) H H' :=
  ⟨h.gn, h.next, fun j hj hm => by
    by_cases hn : N j
    · exact k j hj hn
    · exact h.get j hj fun e => hm ⟨e, hn⟩⟩
theorem ExtM.whole {M N : Nat → Prop} {H H' : Heap} (h : ExtM (fun j => M j ∧ ¬ N j) H H') : ExtM M H H' := ⟨h.gn, h.next, fun j hj hm => h.get j hj fun e => hm e.1⟩
theorem ExtM.stepN {M M' N : Nat → Prop} {a b c : Heap} (h : ExtM (fun j => M j ∧ ¬ N j) a b) (g : MGrow M M' a) (k : ExtM (fun j => M' j ∧ ¬ N j) b c) : ExtM (fun j => M j ∧ ¬ N j) a c :=
  h.step (M' := fun j => M' j ∧ ¬ N j) (fun j hj => (g j hj.1).imp (fun e => ⟨e, hj.2⟩) id) k
theorem HistP.at7 {H : Heap} {M : Nat → Prop} {p : Nat} {s : V} {h : HistC} {uv rv ov : V} {ue re oe : List (List V)} {uk rk ok : Option Nat} (q : HistP H M p s h uv rv ov ue re oe uk rk ok) : At H p 0 [s, .int .i64 h.max, .bool true, uv, rv, .bool h.opened, ov] :=
  ⟨q.lt, false, 7, _, q.at', by simp, fun j v hj => by rw [Nat.zero_add]; exact hj⟩
theorem readyH {H : Heap} {M : Nat → Prop} {p : Nat} {s : V} {h : HistC} (q : HistI H M p s h) : SCalls PP 36 [.ptr p 0] H fun r H' => H' = H ∧ r = .bool true := by
  refine SCalls.go c36 (by simp [fn36]) fun hw => ?_
  obtain ⟨uv, rv, ov, ue, re, oe, uk, rk, ok, q⟩ := q
  have e : ∀ G, exec (.eqnil 0 true) [.ptr p 0, .nilp] G = some (.bool true, G) := fun _ => rfl
  have l := q.at7.ld (j := 2) (v := .bool true) rfl 1
  simp (maxSteps := 1000000) (implicitDefEqProofs := false) only [stp, if_true, if_false, Int.reduceEq, Int.reduceLT, Int.reduceLE, Int.reduceGT, Int.reduceGE, reduceCtorEq, Nat.reduceEqDiff, List.getElem?_cons_zero, List.getElem?_cons_succ, Option.map_some, fn36, enterFr, List.length, List.range, List.range.loop, List.zip, List.zipWith, e, l]
  exact ⟨by trivial, by trivial⟩
theorem openH {H : Heap} {M : Nat → Prop} {p : Nat} {s : V} {h : HistC} (q : HistI H M p s h) : SCalls PP 28 [.ptr p 0] H fun r H' => H' = H ∧ r = .bool h.opened := by
  refine SCalls.go c28 (by simp [fn28]) fun hw => ?_
  simp (maxSteps := 1000000) (implicitDefEqProofs := false) only [stp, if_true, if_false, Int.reduceEq, Int.reduceLT, Int.reduceLE, Int.reduceGT, Int.reduceGE, reduceCtorEq, Nat.reduceEqDiff, List.getElem?_cons_zero, List.getElem?_cons_succ, Option.map_some, fn28, enterFr, List.length, List.range, List.range.loop, List.zip, List.zipWith]
  refine SCalls.mono (readyH q) ?_
  rintro r G ⟨rfl, rfl⟩
  obtain ⟨uv, rv, ov, ue, re, oe, uk, rk, ok, q⟩ := q
  have l := q.at7.ld (j := 5) (v := .bool h.opened) rfl 1
  simp (maxSteps := 1000000) (implicitDefEqProofs := false) only [stp, if_true, if_false, Int.reduceEq, Int.reduceLT, Int.reduceLE, Int.reduceGT, Int.reduceGE, reduceCtorEq, Nat.reduceEqDiff, List.getElem?_cons_zero, List.getElem?_cons_succ, Option.map_some, l]
  exact ⟨by trivial, by trivial⟩
theorem depthsH {H : Heap} {M : Nat → Prop} {p : Nat} {s : V} {h : HistC} (q : HistI H M p s h) : SCalls PP 15 [.ptr p 0] H fun r H' => H' = H ∧ r = .tup [.int .i64 h.undo.length, .int .i64 h.redo.length] := by
  refine SCalls.go c15 (by simp [fn15]) fun hw => ?_
  simp (maxSteps := 1000000) (implicitDefEqProofs := false) only [stp, if_true, if_false, Int.reduceEq, Int.reduceLT, Int.reduceLE, Int.reduceGT, Int.reduceGE, reduceCtorEq, Nat.reduceEqDiff, List.getElem?_cons_zero, List.getElem?_cons_succ, Option.map_some, fn15, enterFr, List.length, List.range, List.range.loop, List.zip, List.zipWith]
  refine SCalls.mono (readyH q) ?_
  rintro r G ⟨rfl, rfl⟩
  obtain ⟨uv, rv, ov, ue, re, oe, uk, rk, ok, q⟩ := q
  have l3 := q.at7.ld (j := 3) (v := uv) rfl 1
  have l4 := q.at7.ld (j := 4) (v := rv) rfl 1
  have n3 : ∀ F, exec .len [uv] F = some (.int .i64 h.undo.length, F) := fun F => by rw [← q.us.grp.length]; exact q.us.vec.len F
  have n4 : ∀ F, exec .len [rv] F = some (.int .i64 h.redo.length, F) := fun F => by rw [← q.rs.grp.length]; exact q.rs.vec.len F
  simp (maxSteps := 1000000) (implicitDefEqProofs := false) only [stp, if_true, if_false, Int.reduceEq, Int.reduceLT, Int.reduceLE, Int.reduceGT, Int.reduceGE, reduceCtorEq, Nat.reduceEqDiff, List.getElem?_cons_zero, List.getElem?_cons_succ, Option.map_some, l3, l4, n3, n4]
  exact ⟨by trivial, by trivial⟩
end Go.Proofs.YtkmaikggdbielaaGreatDoor.Fw

/- A history's stacks: one group more. No condition. -/
namespace Go.Proofs.YtkmaikggdbielaaGreatDoor.Fw
open Go
set_option linter.unusedSimpArgs false
set_option linter.unusedVariables false

theorem grp_push {H : Heap} (hw : WF H) {v : V} {es : List (List V)} {k : Option Nat} (hv : Vec H v 2 es k) {d u : V} (ho : ([d, u] : List V).all V.one = true) (hl : es.length + 1 ≤ big) :
    ∃ H3 H4, exec (.bsl 2 1 [.nils, .nils] [(0, 2)]) [.agg [d, u]] H = some (.slice H.next 0 1 (some 1), H3) ∧ exec (.app 2 48) [v, .slice H.next 0 1 (some 1)] H3 = some (.slice H3.next 0 (es.length + 1) none, H4) ∧
      Vec H4 (.slice H3.next 0 (es.length + 1) none) 2 (es ++ [[d, u]]) (some H3.next) ∧ Own H4 H3.next 2 (es ++ [[d, u]]) ∧ WF H4 ∧ H3.next = H.next + 1 ∧ H4.next = H3.next + 1 ∧ H4.gn = H.gn ∧ ∀ j, j < H.next → k ≠ some j → H4.get j = H.get j := by
  unfold big at hl
  have hb : exec (.bsl 2 1 [.nils, .nils] [(0, 2)]) [.agg [d, u]] H = some (.slice H.next 0 1 (some 1), H.new (.row false 2 [d, u])) := by
    have hf : fillA [V.nils, .nils] [((0, 2), .agg [d, u])] = some [d, u] := by
      simp only [fillA]
      rfl
    simp only [exec, List.length_cons, List.length_nil, if_true, List.zip_cons_cons, List.zip_nil_right, hf, Option.bind_some, ho]
  generalize hel : ([d, u] : List V) = el at *
  have hell : el.length = 2 := by rw [← hel]; rfl
  have hx3 : Ext H (H.new (.row false 2 el)) := (Ext.refl H).new _
  have hw3 : WF (H.new (.row false 2 el)) := hw.new _
  have hown3 : Own (H.new (.row false 2 el)) H.next 2 [el] := ⟨Nat.lt_succ_self _, by rw [new_get]; simp, by simpa using ⟨hell, by simpa using ho⟩⟩
  obtain ⟨s1, s2⟩ := (hown3.sl (some 1)).src (by simp)
  have hn3 : (H.new (.row false 2 el)).next = H.next + 1 := rfl
  generalize hG3 : H.new (.row false 2 el) = G3 at *
  obtain ⟨H4, ha, hv4, ho4, hw4, hn4, hgn4, hk4⟩ := (hv.ext hx3).app (bytes := 48) (n := 1) (news := [el]) hw3 (by decide) rfl (by decide) (by simpa using s1) (by simpa using s2) (fun e he => by simp at he; subst he; exact ⟨hell, ho⟩) (by omega) (by omega)
  exact ⟨G3, H4, hb, ha, hv4, ho4, hw4, hn3, hn4, by rw [hgn4, hx3.gn], fun j hj hk => by rw [hk4 j (by omega) hk, hx3.get j hj]⟩
end Go.Proofs.YtkmaikggdbielaaGreatDoor.Fw

/- A history's stacks: the oldest groups cut off. No condition. -/
namespace Go.Proofs.YtkmaikggdbielaaGreatDoor.Fw
open Go
set_option linter.unusedSimpArgs false
set_option linter.unusedVariables false

theorem grp_cut {H : Heap} (hw : WF H) {id : Nat} {es : List (List V)} (ho : Own H id 2 es) {n : Nat} (hn : 0 < n) (hne : n ≤ es.length) :
    ∃ H5, exec (.slc 2 false true false) [.slice id 0 es.length none, .int .i64 n] H = some (.slice id (0 + 0 * 2) (n - 0) none, H) ∧ exec (.clear [.nils, .nils]) [.slice id (0 + 0 * 2) (n - 0) none] H = some (.undef, H5) ∧
      (exec (.slc 2 true true true) [.slice id 0 es.length none, .int .i64 n, .int .i64 es.length, .int .i64 es.length] H5 = some (.slice id (0 + n * 2) (es.length - n) (some (es.length - n)), H5)) ∧
      WF H5 ∧ H5.next = H.next ∧ H5.gn = H.gn ∧ (∀ j, j ≠ id → H5.get j = H.get j) ∧ SL H5 (.slice id (0 + n * 2) (es.length - n) (some (es.length - n))) 2 (es.drop n) := by
  have hfl := flatLen fun e he => (ho.len e he).1
  have hz : (List.replicate n ([.nils, .nils] : List V)).flatten.length = n * 2 := by
    rw [flatLen (sz := 2) (fun e he => by rw [List.eq_of_mem_replicate he]; rfl), List.length_replicate]
  have hza : (List.replicate n ([.nils, .nils] : List V)).flatten.all V.one = true := flatAll fun e he => by rw [List.eq_of_mem_replicate he]; rfl
  have hwr : writeAt H id 0 (List.replicate n ([.nils, .nils] : List V)).flatten = some (H.set id (.row false 2 (splice es.flatten 0 (List.replicate n ([.nils, .nils] : List V)).flatten))) := by
    unfold writeAt
    rw [ho.get]
    simp only
    rw [if_pos ⟨by rw [hz, hfl]; omega, hza⟩]
  have hrow := set_get' H id (.row false 2 (splice es.flatten 0 (List.replicate n ([.nils, .nils] : List V)).flatten))
  refine ⟨H.set id (.row false 2 (splice es.flatten 0 (List.replicate n ([.nils, .nils] : List V)).flatten)), ?_, ?_, ?_, hw.set ho.get _, rfl, rfl, fun j hj => by rw [Heap.set_get, if_neg hj], ?_⟩
  · have hb : bounds3 false true false es.length ((none : Option Nat).getD es.length) [V.int .i64 n] = some (0, n, es.length) := by simp [bounds3, natV]
    simp only [exec, hb]
    rw [if_pos ⟨Nat.zero_le _, hne, Nat.le_refl _, by simp [slcOk, ho.get]⟩]
  · obtain ⟨m, rfl⟩ : ∃ m, n = m + 1 := ⟨n - 1, by omega⟩
    simp only [exec, Nat.sub_zero, Nat.zero_mul, Nat.add_zero]
    rw [hwr]
    rfl
  · have hb : bounds3 true true true es.length ((none : Option Nat).getD es.length) [V.int .i64 n, .int .i64 es.length, .int .i64 es.length] = some (n, es.length, es.length) := by simp [bounds3, natV]
    simp only [exec, hb]
    rw [if_pos ⟨hne, Nat.le_refl _, Nat.le_refl _, by simp [slcOk]⟩]
  · refine ⟨fun e he => ho.len e (List.mem_of_mem_drop he), .inr ⟨id, 0 + n * 2, some (es.length - n), by rw [List.length_drop], ho.lt, fun i e he => ?_⟩⟩
    rw [List.getElem?_drop] at he
    have hi := (List.getElem?_eq_some_iff.1 he).1
    have hel := ho.len e (List.mem_of_getElem? he)
    refine ⟨ho.lt, false, 2, _, hrow, ?_, fun j v hj => ?_⟩
    · unfold splice
      simp only [List.take_zero, List.nil_append, List.length_append, List.length_drop, hz, hfl, hel.1]
      omega
    · unfold splice
      have hj2 : j < 2 := by have := (List.getElem?_eq_some_iff.1 hj).1; omega
      rw [List.take_zero, List.nil_append, List.getElem?_append_right (by rw [hz]; omega), List.getElem?_drop, hz]
      have := flatG (sz := 2) (fun e he => (ho.len e he).1) he hj2
      rw [show 0 + n * 2 + (0 + n * 2 + i * 2 + j - n * 2) = (n + i) * 2 + j by omega, this]
      exact hj
end Go.Proofs.YtkmaikggdbielaaGreatDoor.Fw

/- A history keeps a group. No condition. -/
namespace Go.Proofs.YtkmaikggdbielaaGreatDoor.Fw
open Go
set_option linter.unusedSimpArgs false
set_option linter.unusedVariables false

def keepL (mx : Int) (l : List GrpC) : List GrpC := l.drop (l.length - mx.toNat)
theorem All2.drop {α β : Type} {R : α → β → Prop} : ∀ {l : List α} {k : List β} (n : Nat), All2 R l k → All2 R (l.drop n) (k.drop n)
  | l, k, 0, h => by simpa using h
  | [], [], n + 1, h => by simpa using h
  | a :: l, b :: k, n + 1, h => by simpa using All2.drop n h.2
  | [], b :: k, n + 1, h => h.elim
  | a :: l, [], n + 1, h => h.elim
theorem StZ.step {M M' : Nat → Prop} {H H' : Heap} {v : V} {es : List (List V)} {gs : List GrpC} {k : Option Nat} (h : StZ M H v es gs k) (x : ExtM M H H') (g : MGrow M M' H) (hk : ∀ j, k = some j → H'.get j = H.get j ∧ M' j) : StZ M' H' v es gs k where
  vec := h.vec.keep x.next (fun j e => (hk j e).1) fun e _ => h.st e _ x
  st := fun e => (h.st e).step x g
  own := fun j e => (hk j e).2
  grp := All2.imp (fun a b q => q.step x g) h.grp
/-- The history under growth. -/
theorem HistD.ext {H H' : Heap} {M N M' N' : Nat → Prop} {p : Nat} {s : V} {h : HistC} (q : HistD H M N p s h) (x : Ext H H') (hM : ∀ j, M j → M' j) (hG : MGrow M M' H) (hb : ∀ j, M' j → j < H'.next) (hN : ∀ j, N' j → M' j ∧ (N j ∨ H.next ≤ j)) : HistD H' M' N' p s h := by
  obtain ⟨uv, rv, ov, ue, re, oe, uk, rk, ok, q, hn⟩ := q
  have own : ∀ {k : Option Nat}, (∀ j, k = some j → M j) → ∀ j, k = some j → H'.get j = H.get j ∧ M' j := fun f j e => ⟨x.get j (q.mb j (f j e)), hM j (f j e)⟩
  refine ⟨uv, rv, ov, ue, re, oe, uk, rk, ok, ⟨Nat.lt_of_lt_of_le q.lt x.next, hM p q.mp, hb, by rw [x.get p q.lt]; exact q.at', q.us.step (x.toM M) hG (own q.us.own), q.rs.step (x.toM M) hG (own q.rs.own), q.os.step (x.toM M) hG (own q.os.own), q.kp, q.ur, q.ro⟩, fun j hj => ?_⟩
  obtain ⟨a, b | b⟩ := hN j hj
  · exact ⟨a, (hn j b).2⟩
  · have hne : ∀ {k : Option Nat}, (∀ j, k = some j → M j) → k ≠ some j := fun f e => by have := q.mb j (f j e); omega
    exact ⟨a, by have := q.lt; omega, hne q.us.own, hne q.rs.own, hne q.os.own⟩
theorem HistD.grow {H H' : Heap} {M N : Nat → Prop} {p : Nat} {s : V} {h : HistC} (q : HistD H M N p s h) (x : Ext H H') : HistD H' M N p s h :=
  q.ext x (fun _ e => e) (MGrow.refl M H) (fun j e => Nat.lt_of_lt_of_le (by obtain ⟨_, _, _, _, _, _, _, _, _, q, _⟩ := q; exact q.mb j e) x.next) fun j e => ⟨by obtain ⟨_, _, _, _, _, _, _, _, _, _, hn⟩ := q; exact (hn j e).1, .inl e⟩
/-- The history where what is nobody's is written. -/
theorem HistD.poke {H H' : Heap} {M N : Nat → Prop} {p : Nat} {s : V} {h : HistC} (q : HistD H M N p s h) (x : ExtM N H H') : HistD H' M N p s h := by
  obtain ⟨uv, rv, ov, ue, re, oe, uk, rk, ok, q, hn⟩ := q
  have xM : ExtM M H H' := ⟨x.gn, x.next, fun j hj hm => x.get j hj fun e => hm (hn j e).1⟩
  refine ⟨uv, rv, ov, ue, re, oe, uk, rk, ok, ⟨Nat.lt_of_lt_of_le q.lt x.next, q.mp, fun j e => Nat.lt_of_lt_of_le (q.mb j e) x.next, by rw [x.get p q.lt fun e => (hn p e).2.1 rfl]; exact q.at', ?_, ?_, ?_, q.kp, q.ur, q.ro⟩, hn⟩
  · exact q.us.step xM (MGrow.refl M H) fun j e => ⟨x.get j (q.mb j (q.us.own j e)) fun k => (hn j k).2.2.1 e, q.us.own j e⟩
  · exact q.rs.step xM (MGrow.refl M H) fun j e => ⟨x.get j (q.mb j (q.rs.own j e)) fun k => (hn j k).2.2.2.1 e, q.rs.own j e⟩
  · exact q.os.step xM (MGrow.refl M H) fun j e => ⟨x.get j (q.mb j (q.os.own j e)) fun k => (hn j k).2.2.2.2 e, q.os.own j e⟩
theorem HistD.less {H : Heap} {M N N' : Nat → Prop} {p : Nat} {s : V} {h : HistC} (q : HistD H M N p s h) (hN : ∀ j, N' j → N j) : HistD H M N' p s h := by
  obtain ⟨uv, rv, ov, ue, re, oe, uk, rk, ok, q, hn⟩ := q
  exact ⟨uv, rv, ov, ue, re, oe, uk, rk, ok, q, fun j e => hn j (hN j e)⟩
theorem HistD.mb {H : Heap} {M N : Nat → Prop} {p : Nat} {s : V} {h : HistC} (q : HistD H M N p s h) {j : Nat} (e : M j) : j < H.next := by
  obtain ⟨_, _, _, _, _, _, _, _, _, q, _⟩ := q
  exact q.mb j e
theorem HistS.then {H H1 H2 : Heap} {M N : Nat → Prop} {p : Nat} {s : V} {h1 h2 : HistC} (a : HistS H M N p s H1 h1) (b : ∀ M', HistD H1 M' N p s h1 → HistS H1 M' N p s H2 h2) : HistS H M N p s H2 h2 := by
  obtain ⟨M1, q1, e1, g1⟩ := a
  obtain ⟨M2, q2, e2, g2⟩ := b M1 q1
  exact ⟨M2, q2, e1.stepN g1 e2, g1.trans g2 e1.next⟩
theorem HistS.grow {H H1 H2 : Heap} {M N : Nat → Prop} {p : Nat} {s : V} {h : HistC} (a : HistS H M N p s H1 h) (x : Ext H1 H2) : HistS H M N p s H2 h := by
  obtain ⟨M1, q1, e1, g1⟩ := a
  exact ⟨M1, q1.grow x, e1.trans (x.toM _), g1⟩
theorem HistD.before {H H1 H2 : Heap} {M N : Nat → Prop} {p : Nat} {s : V} {h' : HistC} (x : Ext H H1) (a : HistS H1 M N p s H2 h') (hb : ∀ j, M j → j < H.next) : HistS H M N p s H2 h' := by
  obtain ⟨M1, q1, e1, g1⟩ := a
  exact ⟨M1, q1, (x.toM _).trans e1, fun j e => (g1 j e).imp id fun k => Nat.le_trans x.next k⟩
theorem SL.row {H F : Heap} {id off len sz : Nat} {cap : Option Nat} {es : List (List V)} (h : SL H (.slice id off len cap) sz es) (hn : H.next ≤ F.next) (hg : F.get id = H.get id) : SL F (.slice id off len cap) sz es := by
  obtain ⟨h0, ⟨e1, _⟩ | ⟨id', off', cap', e1, e2, e3⟩⟩ := h
  · cases e1
  · cases e1
    refine ⟨h0, .inr ⟨id, off, cap, rfl, by omega, fun i e he => ?_⟩⟩
    obtain ⟨q1, ro, esz, cells, q2, q3⟩ := e3 i e he
    exact ⟨by omega, ro, esz, cells, by rw [hg]; exact q2, q3⟩
set_option maxRecDepth 20000 in
set_option maxHeartbeats 4000000 in
theorem keep_calls {H : Heap} {M N : Nat → Prop} {p : Nat} {s : V} {h : HistC} (q : HistD H M N p s h) {d u : V} {g : GrpC} (hg : GrpZ M H [d, u] g) (ho : ([d, u] : List V).all V.one = true) (hl : h.undo.length + 1 ≤ big) (hm : 0 ≤ h.max) (hmb : h.max ≤ 65536) :
    SCalls PP 39 [.ptr p 0, .agg [d, u]] H fun r H' => WF H' ∧ HistS H M N p s H' { h with undo := keepL h.max (h.undo ++ [g]) } := by
  refine SCalls.go c39 (by simp [fn39]) fun hw => ?_
  obtain ⟨uv, rv, ov, ue, re, oe, uk, rk, ok, q, hN⟩ := q
  obtain ⟨G1, hx1, hw1, ha1, hb1⟩ := x_boxed (Ext.refl H) hw (e := [d, u]) ho
  have hue := q.us.grp.length
  have l9 := (q.at7.ext hx1).ld (j := 3) (v := uv) rfl 1
  have lg := ha1.lda (n := 2) rfl
  obtain ⟨H3, H4, e1, e2, v4, o4, w4, n3, n4, gn4, k4⟩ := grp_push hw1 (q.us.vec.ext hx1) ho (by omega)
  have hpl := q.lt
  have hx1n := hx1.next
  have hp4 : H4.get p = some (.row false 7 [s, .int .i64 h.max, .bool true, uv, rv, .bool h.opened, ov]) := by
    rw [k4 p (by omega) (fun e => q.kp p (.inl e) rfl), hx1.get p q.lt]; exact q.at'
  have hst := st_cell (v := .slice H3.next 0 (ue.length + 1) none) hp4 (k := 3) (by simp) rfl rfl
  simp (maxSteps := 1000000) (implicitDefEqProofs := false) only [stp, if_true, if_false, Int.reduceEq, Int.reduceLT, Int.reduceLE, Int.reduceGT, Int.reduceGE, reduceCtorEq, Nat.reduceEqDiff, List.getElem?_cons_zero, List.getElem?_cons_succ, Option.map_some, fn39, enterFr, List.length, List.range, List.range.loop, List.zip, List.zipWith, hb1, l9, lg, e1, e2, hst]
  have hp5 : (H4.set p (.row false 7 (([s, .int .i64 h.max, .bool true, uv, rv, .bool h.opened, ov] : List V).set 3 (.slice H3.next 0 (ue.length + 1) none)))).get p = some (.row false 7 [s, .int .i64 h.max, .bool true, .slice H3.next 0 (ue.length + 1) none, rv, .bool h.opened, ov]) := set_get' _ _ _
  have hw5 := w4.set hp4 (.row false 7 (([s, .int .i64 h.max, .bool true, uv, rv, .bool h.opened, ov] : List V).set 3 (.slice H3.next 0 (ue.length + 1) none)))
  have o5 : Own (H4.set p (.row false 7 (([s, .int .i64 h.max, .bool true, uv, rv, .bool h.opened, ov] : List V).set 3 (.slice H3.next 0 (ue.length + 1) none)))) H3.next 2 (ue ++ [[d, u]]) := ⟨by rw [Heap.set_next]; exact o4.lt, by rw [Heap.set_get, if_neg (by omega)]; exact o4.get, o4.len⟩
  have k5 : ∀ j, j < H.next → uk ≠ some j → j ≠ p → (H4.set p (.row false 7 (([s, .int .i64 h.max, .bool true, uv, rv, .bool h.opened, ov] : List V).set 3 (.slice H3.next 0 (ue.length + 1) none)))).get j = H.get j := fun j hj a b => by
    rw [Heap.set_get, if_neg b, k4 j (by omega) a, hx1.get j hj]
  have n5 : (H4.set p (.row false 7 (([s, .int .i64 h.max, .bool true, uv, rv, .bool h.opened, ov] : List V).set 3 (.slice H3.next 0 (ue.length + 1) none)))).next = H4.next := rfl
  have gn5 : (H4.set p (.row false 7 (([s, .int .i64 h.max, .bool true, uv, rv, .bool h.opened, ov] : List V).set 3 (.slice H3.next 0 (ue.length + 1) none)))).gn = H.gn := by rw [Heap.set_gn, gn4, hx1.gn]
  generalize H4.set p (.row false 7 (([s, .int .i64 h.max, .bool true, uv, rv, .bool h.opened, ov] : List V).set 3 (.slice H3.next 0 (ue.length + 1) none))) = H5 at *
  have hat5 : At H5 p 0 [s, .int .i64 h.max, .bool true, .slice H3.next 0 (ue.length + 1) none, rv, .bool h.opened, ov] := ⟨by omega, false, 7, _, hp5, by simp, fun j v hj => by rw [Nat.zero_add]; exact hj⟩
  have m1 := hat5.ld (j := 1) (v := .int .i64 h.max) rfl 1
  have m3 := hat5.ld (j := 3) (v := .slice H3.next 0 (ue.length + 1) none) rfl 1
  have hln : ∀ F, exec .len [.slice H3.next 0 (ue.length + 1) none] F = some (.int .i64 ((ue.length + 1 : Nat) : Int), F) := fun F => rfl
  have hM5 : ExtM M H H5 := ⟨gn5, by omega, fun j hj hm => k5 j hj (fun e => hm (q.us.own j e)) (fun e => hm (by rw [e]; exact q.mp))⟩
  unfold big at hl
  have hsub : IntKind.i64.wrap (((ue.length + 1 : Nat) : Int) - h.max) = ((ue.length + 1 : Nat) : Int) - h.max := wrap_i64 (by omega) (by omega)
  by_cases hgt : ((ue.length + 1 : Nat) : Int) - h.max > 0
  rotate_left
  · simp (maxSteps := 1000000) (implicitDefEqProofs := false) only [stp, if_true, if_false, Int.reduceEq, Int.reduceLT, Int.reduceLE, Int.reduceGT, Int.reduceGE, reduceCtorEq, Nat.reduceEqDiff, List.getElem?_cons_zero, List.getElem?_cons_succ, Option.map_some, m1, m3, hln, hsub, hgt]
    have hG : MGrow M (fun j => M j ∨ j = H3.next) H := fun j hj => by
      rcases hj with e | e
      · exact .inl e
      · exact .inr (by omega)
    have hkl : keepL h.max (h.undo ++ [g]) = h.undo ++ [g] := by
      unfold keepL
      rw [show (h.undo ++ [g]).length - h.max.toNat = 0 by simp; omega, List.drop_zero]
    refine ⟨hw5, fun j => M j ∨ j = H3.next, ⟨.slice H3.next 0 (ue.length + 1) none, rv, ov, ue ++ [[d, u]], re, oe, some H3.next, rk, ok, ?_, fun j hj => by
      obtain ⟨a1, a2, _, a4, a5⟩ := hN j hj
      have := q.mb j a1
      exact ⟨.inl a1, a2, fun e => by cases e; omega, a4, a5⟩⟩, hM5.minus fun j hj hn => k5 j hj (hN j hn).2.2.1 (hN j hn).2.1, hG⟩
    rw [hkl]
    refine ⟨by omega, .inl q.mp, fun j hj => ?_, hp5, ⟨⟨o5.len, .inr (.inr (.inl ⟨H3.next, by simp, o5, rfl⟩))⟩, (fun e => by cases e), fun j e => .inr (by cases e; rfl), All2.append (All2.imp (fun a b r => r.step hM5 hG) q.us.grp) ⟨hg.step hM5 hG, trivial⟩⟩, q.rs.step hM5 hG fun j e => ⟨k5 j (q.mb j (q.rs.own j e)) (fun e2 => (q.ur j e2).1 e) (q.kp j (.inr (.inl e))), .inl (q.rs.own j e)⟩, q.os.step hM5 hG fun j e => ⟨k5 j (q.mb j (q.os.own j e)) (fun e2 => (q.ur j e2).2 e) (q.kp j (.inr (.inr e))), .inl (q.os.own j e)⟩, fun j hj => ?_, fun j hj => ?_, q.ro⟩
    · rcases hj with e | e
      · have := q.mb j e; omega
      · omega
    · rcases hj with e | e
      · cases e; omega
      · exact q.kp j (.inr e)
    · cases hj
      exact ⟨fun e => by have := q.mb _ (q.rs.own _ e); omega, fun e => by have := q.mb _ (q.os.own _ e); omega⟩
  · obtain ⟨n, hn⟩ : ∃ n : Nat, ((ue.length + 1 : Nat) : Int) - h.max = n := ⟨(((ue.length + 1 : Nat) : Int) - h.max).toNat, by omega⟩
    have hel : (ue ++ [[d, u]]).length = ue.length + 1 := by simp
    obtain ⟨H6, f1, f2, f3, w6, n6, gn6, k6, sl6⟩ := grp_cut hw5 o5 (n := n) (by omega) (by rw [hel]; omega)
    rw [hel] at f1 f3 sl6
    have hp6 : H6.get p = some (.row false 7 [s, .int .i64 h.max, .bool true, .slice H3.next 0 (ue.length + 1) none, rv, .bool h.opened, ov]) := by rw [k6 p (by omega)]; exact hp5
    have hat6 : At H6 p 0 [s, .int .i64 h.max, .bool true, .slice H3.next 0 (ue.length + 1) none, rv, .bool h.opened, ov] := ⟨by omega, false, 7, _, hp6, by simp, fun j v hj => by rw [Nat.zero_add]; exact hj⟩
    have m6 := hat6.ld (j := 3) (v := .slice H3.next 0 (ue.length + 1) none) rfl 1
    have hst6 := st_cell (v := .slice H3.next (0 + n * 2) (ue.length + 1 - n) (some (ue.length + 1 - n))) hp6 (k := 3) (by simp) rfl rfl
    have hsub' := hsub.trans hn
    have hgt' : (n : Int) > 0 := by omega
    simp (maxSteps := 1000000) (implicitDefEqProofs := false) only [stp, if_true, if_false, Int.reduceEq, Int.reduceLT, Int.reduceLE, Int.reduceGT, Int.reduceGE, reduceCtorEq, Nat.reduceEqDiff, List.getElem?_cons_zero, List.getElem?_cons_succ, Option.map_some, m1, m3, hln, hsub', hgt', f1, f2, m6, f3, hst6]
    have w7 := w6.set hp6 (.row false 7 (([s, .int .i64 h.max, .bool true, .slice H3.next 0 (ue.length + 1) none, rv, .bool h.opened, ov] : List V).set 3 (.slice H3.next (0 + n * 2) (ue.length + 1 - n) (some (ue.length + 1 - n)))))
    have hp7 : (H6.set p (.row false 7 (([s, .int .i64 h.max, .bool true, .slice H3.next 0 (ue.length + 1) none, rv, .bool h.opened, ov] : List V).set 3 (.slice H3.next (0 + n * 2) (ue.length + 1 - n) (some (ue.length + 1 - n)))))).get p = some (.row false 7 [s, .int .i64 h.max, .bool true, .slice H3.next (0 + n * 2) (ue.length + 1 - n) (some (ue.length + 1 - n)), rv, .bool h.opened, ov]) := set_get' _ _ _
    have k7 : ∀ j, j ≠ p → (H6.set p (.row false 7 (([s, .int .i64 h.max, .bool true, .slice H3.next 0 (ue.length + 1) none, rv, .bool h.opened, ov] : List V).set 3 (.slice H3.next (0 + n * 2) (ue.length + 1 - n) (some (ue.length + 1 - n)))))).get j = H6.get j := fun j b => by rw [Heap.set_get, if_neg b]
    have n7 : (H6.set p (.row false 7 (([s, .int .i64 h.max, .bool true, .slice H3.next 0 (ue.length + 1) none, rv, .bool h.opened, ov] : List V).set 3 (.slice H3.next (0 + n * 2) (ue.length + 1 - n) (some (ue.length + 1 - n)))))).next = H6.next := rfl
    have gn7 : (H6.set p (.row false 7 (([s, .int .i64 h.max, .bool true, .slice H3.next 0 (ue.length + 1) none, rv, .bool h.opened, ov] : List V).set 3 (.slice H3.next (0 + n * 2) (ue.length + 1 - n) (some (ue.length + 1 - n)))))).gn = H.gn := by rw [Heap.set_gn, gn6, gn5]
    generalize H6.set p (.row false 7 (([s, .int .i64 h.max, .bool true, .slice H3.next 0 (ue.length + 1) none, rv, .bool h.opened, ov] : List V).set 3 (.slice H3.next (0 + n * 2) (ue.length + 1 - n) (some (ue.length + 1 - n))))) = H7 at *
    have kk : ∀ j, j < H.next → uk ≠ some j → j ≠ p → H7.get j = H.get j := fun j hj a b => by rw [k7 j b, k6 j (by omega), k5 j hj a b]
    have hM7 : ExtM M H H7 := ⟨gn7, by omega, fun j hj hm => kk j hj (fun e => hm (q.us.own j e)) (fun e => hm (by rw [e]; exact q.mp))⟩
    have hG := MGrow.refl M H
    have hkl : keepL h.max (h.undo ++ [g]) = (h.undo ++ [g]).drop n := by
      unfold keepL
      rw [show (h.undo ++ [g]).length - h.max.toNat = n by simp; omega]
    have sl7 := sl6.row (F := H7) (by omega) (k7 _ (by omega))
    have hdl : ((ue ++ [[d, u]]).drop n).length = ue.length + 1 - n := by rw [List.length_drop, hel]
    have hgrp : All2 (GrpZ M H7) (ue ++ [[d, u]]) (h.undo ++ [g]) := All2.append (All2.imp (fun a b r => r.step hM7 hG) q.us.grp) ⟨hg.step hM7 hG, trivial⟩
    refine ⟨w7, M, ⟨.slice H3.next (0 + n * 2) (ue.length + 1 - n) (some (ue.length + 1 - n)), rv, ov, (ue ++ [[d, u]]).drop n, re, oe, none, rk, ok, ?_, fun j hj => by
      obtain ⟨a1, a2, _, a4, a5⟩ := hN j hj
      exact ⟨a1, a2, by simp, a4, a5⟩⟩, hM7.minus fun j hj hn => kk j hj (hN j hn).2.2.1 (hN j hn).2.1, hG⟩
    rw [hkl]
    refine ⟨by omega, q.mp, fun j hj => ?_, hp7, ⟨⟨sl7.1, .inr (.inl ⟨H3.next, 0 + n * 2, by rw [hdl], sl7, rfl⟩)⟩, fun _ F x => sl7.row x.next (x.get _ (by omega) fun e => by have := q.mb _ e; omega), (fun j e => by cases e), hgrp.drop n⟩, q.rs.step hM7 hG fun j e => ⟨kk j (q.mb j (q.rs.own j e)) (fun e2 => (q.ur j e2).1 e) (q.kp j (.inr (.inl e))), q.rs.own j e⟩, q.os.step hM7 hG fun j e => ⟨kk j (q.mb j (q.os.own j e)) (fun e2 => (q.ur j e2).2 e) (q.kp j (.inr (.inr e))), q.os.own j e⟩, fun j hj => ?_, (fun j hj => by cases hj), q.ro⟩
    · have := q.mb j hj; omega
    · rcases hj with e | e
      · cases e
      · exact q.kp j (.inr e)
end Go.Proofs.YtkmaikggdbielaaGreatDoor.Fw

/- A history moves its newest group. No condition. -/
namespace Go.Proofs.YtkmaikggdbielaaGreatDoor.Fw
open Go
set_option linter.unusedSimpArgs false
set_option linter.unusedVariables false

theorem All2.snoc {α β : Type} {R : α → β → Prop} : ∀ {l : List α} {k : List β} {b : β}, All2 R l (k ++ [b]) → ∃ l' a, l = l' ++ [a] ∧ All2 R l' k ∧ R a b
  | [], k, b, h => by cases k <;> exact h.elim
  | a :: l, [], b, h => by
    cases l with
    | nil => exact ⟨[], a, rfl, trivial, h.1⟩
    | cons c l => exact h.2.elim
  | a :: l, c :: k, b, h => by
    obtain ⟨l', x, e, h1, h2⟩ := All2.snoc (l := l) (k := k) h.2
    exact ⟨a :: l', x, by rw [e]; rfl, ⟨h.1, h1⟩, h2⟩
/-- A cell of a row is written. -/
theorem st_row {G : Heap} (hw : WF G) {p k esz : Nat} {c c' : List V} {v : V} (hg : G.get p = some (.row false esz c)) (hk : k < c.length) (hv : v.cells = [v]) (ho : v.one = true) (hc : c.set k v = c') :
    ∃ G', exec (.st 1) [.ptr p k, v] G = some (.undef, G') ∧ WF G' ∧ G'.get p = some (.row false esz c') ∧ G'.next = G.next ∧ G'.gn = G.gn ∧ ∀ j, j ≠ p → G'.get j = G.get j := by
  refine ⟨G.set p (.row false esz (c.set k v)), st_cell hg hk hv ho, hw.set hg _, by rw [set_get', hc], rfl, rfl, fun j hj => by rw [Heap.set_get, if_neg hj]⟩
/-- All but the last elements. -/
theorem vec_take {H : Heap} {v : V} {sz : Nat} {es : List (List V)} {k : Option Nat} (h : Vec H v sz es k) (hne : es ≠ []) {m : Nat} (hm : m ≤ es.length) : ∃ a, exec (.slc sz false true false) [v, .int .i64 m] H = some (a, H) ∧ SL H a sz (es.take m) := by
  have up : ∀ (id off : Nat) (c c' : Option Nat), SL H (.slice id off es.length c) sz es → SL H (.slice id (off + 0 * sz) (m - 0) c') sz (es.take m) := by
    intro id off c c' h
    obtain ⟨h0, ⟨e, _⟩ | ⟨id', off', cap', e1, e2, e3⟩⟩ := h
    · cases e
    · simp only [V.slice.injEq] at e1
      obtain ⟨rfl, rfl, _, _⟩ := e1
      refine ⟨fun e he => h0 e (List.mem_of_mem_take he), .inr ⟨_, _, _, by rw [List.length_take, Nat.min_eq_left hm, Nat.sub_zero], e2, fun i e he => ?_⟩⟩
      rw [List.getElem?_take] at he
      split at he
      · have := e3 i e he
        rwa [Nat.zero_mul, Nat.add_zero]
      · cases he
  have hsl := h.sl
  obtain ⟨_, ⟨rfl, e, _⟩ | ⟨id, off, rfl, _, _⟩ | ⟨id, rfl, ho, _⟩ | ⟨e, _⟩⟩ := h
  · exact absurd e hne
  · refine ⟨.slice id (off + 0 * sz) (m - 0) (some (es.length - 0)), ?_, up _ _ _ _ hsl⟩
    have hb : bounds3 false true false es.length ((some es.length : Option Nat).getD es.length) [V.int .i64 m] = some (0, m, es.length) := by simp [bounds3, natV]
    simp only [exec, hb]
    rw [if_pos ⟨Nat.zero_le _, hm, Nat.le_refl _, by simp [slcOk]⟩]
  · refine ⟨.slice id (0 + 0 * sz) (m - 0) none, ?_, up _ _ _ _ hsl⟩
    have hb : bounds3 false true false es.length ((none : Option Nat).getD es.length) [V.int .i64 m] = some (0, m, es.length) := by simp [bounds3, natV]
    simp only [exec, hb]
    rw [if_pos ⟨Nat.zero_le _, hm, Nat.le_refl _, by simp [slcOk, ho.get]⟩]
  · exact absurd e hne
theorem cloneG_calls {x : V} {H : Heap} {es : List (List V)} (hx : SL H x 2 es) (hl : es.length ≤ big) :
    SCalls PP 55 [x] H fun r H' => Ext H H' ∧ WF H' ∧ ∃ k, Vec H' r 2 es k ∧ (∀ j, k = some j → H.next ≤ j) ∧ (es ≠ [] → ∃ j, k = some j ∧ Own H' j 2 es ∧ r = .slice j 0 es.length none) ∧ (k = none → es = []) :=
  clone_gen (show compFn PP 55 = some (cloneFn 2 48) from c55) (by decide) (by decide) hx hl
theorem x_build0 (H : Heap) : exec (.build [.nils, .nils] []) [] H = some (.agg [.nils, .nils], H) := rfl

set_option maxRecDepth 20000 in
set_option maxHeartbeats 1000000 in
theorem moveU_no {H : Heap} {M : Nat → Prop} {p : Nat} {s : V} {h : HistC} (q : HistI H M p s h) (hn : h.opened = true ∨ h.undo = []) :
    SCalls PP 40 [.ptr p 0, .ptr p (0 + 3), .ptr p (0 + 4)] H fun r H' => Ext H H' ∧ WF H' ∧ r = .tup [.agg [.nils, .nils], .int .i64 (if h.opened then 9 else 10)] := by
  refine SCalls.go c40 (by simp [fn40]) fun hw => ?_
  obtain ⟨uv, rv, ov, ue, re, oe, uk, rk, ok, q⟩ := q
  have al := x_alloc H [.nils, .nils] rfl
  have hx1 : Ext H (H.new (.row false 2 [.nils, .nils])) := (Ext.refl H).new _
  have hw1 : WF (H.new (.row false 2 [.nils, .nils])) := hw.new _
  have hg1 := new_get H (.row false 2 [.nils, .nils])
  have hn1 : H.next < (H.new (.row false 2 [.nils, .nils])).next := Nat.lt_succ_self _
  rw [show ([V.nils, .nils] : List V).length = 2 from rfl] at al
  generalize H.new (.row false 2 [.nils, .nils]) = G at *
  have lf := (q.at7.ext hx1).ld (j := 3) (v := uv) rfl 1
  have lo := (q.at7.ext hx1).ld (j := 5) (v := .bool h.opened) rfl 1
  have ln : ∀ F, exec .len [uv] F = some (.int .i64 h.undo.length, F) := fun F => by rw [← q.us.grp.length]; exact q.us.vec.len F
  have st := x_st (n := 2) (v := .agg [.nils, .nils]) hg1 rfl rfl rfl
  have hca : At (G.set H.next (.row false 2 [.nils, .nils])) H.next 0 [.nils, .nils] := ⟨hn1, false, 2, [.nils, .nils], set_get' _ _ _, by simp, fun j v hj => by rw [Nat.zero_add]; exact hj⟩
  have hcs : (V.agg [.nils, .nils]).cells = [.nils, .nils] := rfl
  rw [hcs] at st
  have hcc := hca.cells (n := 2) rfl
  have hxx : Ext H (G.set H.next (.row false 2 [.nils, .nils])) := hx1.set (Nat.le_refl _) _
  have hww := hw1.set hg1 (.row false 2 [.nils, .nils])
  generalize G.set H.next (.row false 2 [.nils, .nils]) = G2 at *
  by_cases ho : h.opened = true
  · rw [ho] at lo ⊢
    simp (maxSteps := 1000000) (implicitDefEqProofs := false) only [stp, if_true, if_false, Int.reduceEq, Int.reduceLT, Int.reduceLE, Int.reduceGT, Int.reduceGE, reduceCtorEq, Nat.reduceEqDiff, List.getElem?_cons_zero, List.getElem?_cons_succ, Option.map_some, fn40, enterFr, List.length, List.range, List.range.loop, List.zip, List.zipWith, al, lf, ln, lo, x_build0, st, hcc]
    exact ⟨hxx, hww, by trivial⟩
  · have ho' : h.opened = false := by simpa using ho
    have he : h.undo = [] := hn.resolve_left ho
    rw [ho'] at lo ⊢
    rw [he] at ln
    have hsub : IntKind.i64.wrap (((0 : Nat) : Int) - 1) = -1 := by decide
    rw [List.length_nil] at ln
    have hlt : (-1 : Int) < 0 := by decide
    simp (maxSteps := 1000000) (implicitDefEqProofs := false) only [stp, if_true, if_false, Int.reduceEq, Int.reduceLT, Int.reduceLE, Int.reduceGT, Int.reduceGE, reduceCtorEq, Nat.reduceEqDiff, List.getElem?_cons_zero, List.getElem?_cons_succ, Option.map_some, fn40, enterFr, List.length, List.range, List.range.loop, List.zip, List.zipWith, al, lf, ln, hsub, lo, hlt, x_build0, st, hcc]
    exact ⟨hxx, hww, by trivial⟩
set_option maxRecDepth 20000 in
set_option maxHeartbeats 4000000 in
theorem moveU_ok {H : Heap} {M N : Nat → Prop} {p : Nat} {s : V} {h : HistC} (q : HistD H M N p s h) (ho : h.opened = false) {gi : List GrpC} {g : GrpC} (hg : h.undo = gi ++ [g]) (hl : h.undo.length ≤ big) (hr : h.redo.length + 1 ≤ big) :
    SCalls PP 40 [.ptr p 0, .ptr p (0 + 3), .ptr p (0 + 4)] H fun r H' => WF H' ∧ ∃ M' d u, r = .tup [.agg [d, u], .int .i64 0] ∧ ([d, u] : List V).all V.one = true ∧ GrpZ M' H' [d, u] g ∧ HistD H' M' N p s { h with undo := gi, redo := h.redo ++ [g] } ∧ ExtM (fun j => M j ∧ ¬ N j) H H' ∧ MGrow M M' H := by
  refine SCalls.go c40 (by simp [fn40]) fun hw => ?_
  obtain ⟨uv, rv, ov, ue, re, oe, uk, rk, ok, q, hN⟩ := q
  unfold big at hl hr
  -- the newest group
  have hgrp := q.us.grp
  rw [hg] at hgrp
  obtain ⟨ei, e0, hue, hgi, hg0⟩ := hgrp.snoc
  have hel := q.us.vec.1 e0 (by rw [hue]; simp)
  have heil := hgi.length
  have hflen : h.undo.length = ei.length + 1 := by rw [hg, List.length_append, ← heil]; rfl
  have hne : ue ≠ [] := by rw [hue]; simp
  have hgl : ei.length ≤ ue.length := by rw [hue]; simp
  obtain ⟨d, u, hedu⟩ : ∃ d u, e0 = [d, u] := by
    obtain ⟨d, u, _, _, h1, _⟩ := hg0
    exact ⟨d, u, h1⟩
  subst hedu
  -- the result's box
  have al := x_alloc H [.nils, .nils] rfl
  have hx1 : Ext H (H.new (.row false 2 [.nils, .nils])) := (Ext.refl H).new _
  have hw1 : WF (H.new (.row false 2 [.nils, .nils])) := hw.new _
  have hg1 := new_get H (.row false 2 [.nils, .nils])
  have hn1 : (H.new (.row false 2 [.nils, .nils])).next = H.next + 1 := rfl
  rw [show ([V.nils, .nils] : List V).length = 2 from rfl] at al
  generalize H.new (.row false 2 [.nils, .nils]) = G1 at *
  have lf := (q.at7.ext hx1).ld (j := 3) (v := uv) rfl 1
  have lo := (q.at7.ext hx1).ld (j := 5) (v := .bool h.opened) rfl 1
  rw [ho] at lo
  have ln : ∀ F, exec .len [uv] F = some (.int .i64 ((ei.length + 1 : Nat) : Int), F) := fun F => by rw [← hflen, ← q.us.grp.length]; exact q.us.vec.len F
  have hsub : IntKind.i64.wrap (((ei.length + 1 : Nat) : Int) - 1) = ((ei.length : Nat) : Int) := by rw [wrap_i64 (by omega) (by omega)]; omega
  have hlt : ¬ (((ei.length : Nat) : Int) < 0) := by omega
  have hsf1 := q.us.vec.ext hx1
  obtain ⟨i1, o1, ha1, ht1⟩ := hsf1.sl.ia (H' := G1) (i := ei.length) (e := [d, u]) (by rw [hue]; simp) .i64
  have la1 := ht1.lda (n := 2) rfl
  obtain ⟨G2, hx2, hw2, ht2, c1, c2⟩ := x_copy (G := G1) (Ext.refl G1) hw1 (z := [.nils, .nils]) (e := [d, u]) (n := 2) rfl rfl rfl hel.2
  have hx12 := hx1.trans hx2
  have lf2 := (q.at7.ext hx12).ld (j := 3) (v := uv) rfl 1
  obtain ⟨a, sa, hsa⟩ := vec_take (q.us.vec.ext hx12) hne hgl
  have htk : ue.take ei.length = ei := by rw [hue]; simp
  rw [htk] at hsa
  simp (maxSteps := 1000000) (implicitDefEqProofs := false) only [stp, if_true, if_false, Int.reduceEq, Int.reduceLT, Int.reduceLE, Int.reduceGT, Int.reduceGE, reduceCtorEq, Nat.reduceEqDiff, List.getElem?_cons_zero, List.getElem?_cons_succ, Option.map_some, fn40, enterFr, List.length, List.range, List.range.loop, List.zip, List.zipWith, al, lf, ln, hsub, lo, hlt, ha1, la1, c1, c2, lf2, sa]
  refine SCalls.mono (cloneG_calls hsa (by unfold big; omega)) ?_
  rintro cv G3 ⟨hx3, hw3, k1, v1, f1, _, z1⟩
  have hx13 := hx12.trans hx3
  have hp3 : G3.get p = some (.row false 7 [s, .int .i64 h.max, .bool true, uv, rv, .bool h.opened, ov]) := by rw [hx13.get p q.lt]; exact q.at'
  obtain ⟨G4, st4, hw4, hp4, n4, gn4, k4⟩ := st_row hw3 (k := 3) (v := cv) hp3 (by simp) v1.one.2 v1.one.1 rfl
  simp only [List.set_cons_succ, List.set_cons_zero] at hp4
  have b2 := hx1.next
  have b3 := hx2.next
  have b4 := hx3.next
  have hat4 : At G4 p 0 [s, .int .i64 h.max, .bool true, cv, rv, .bool h.opened, ov] := ⟨by have := q.lt; omega, false, 7, _, hp4, by simp, fun j v hj => by rw [Nat.zero_add]; exact hj⟩
  have lt4 := hat4.ld (j := 4) (v := rv) rfl 1
  have ht4 : At G4 G1.next 0 [d, u] := by
    obtain ⟨q1, ro, esz, cells, q2, q3⟩ := ht2.ext hx3
    exact ⟨by omega, ro, esz, cells, by rw [k4 _ (by have := q.lt; omega)]; exact q2, q3⟩
  have la4 := ht4.lda (n := 2) rfl
  have old4 : ∀ j, j < H.next → j ≠ p → G4.get j = H.get j := fun j hj hp => by rw [k4 j hp, hx13.get j hj]
  have tv4 : Vec G4 rv 2 re rk := q.rs.vec.keep (by omega) (fun j e => by
      have hj := q.rs.vec
      rw [e] at hj
      exact old4 j hj.lt (q.kp j (.inr (.inl e)))) fun e _ => q.rs.st e G4 ⟨by rw [gn4, hx13.gn], by omega, fun j hj hm => old4 j hj (fun e => hm (by rw [e]; exact q.mp))⟩
  obtain ⟨H5, H6, e5, e6, v6, o6, w6, n5, n6, gn6, k6⟩ := grp_push hw4 tv4 (d := d) (u := u) hel.2 (by rw [q.rs.grp.length]; exact hr)
  simp (maxSteps := 1000000) (implicitDefEqProofs := false) only [stp, if_true, if_false, Int.reduceEq, Int.reduceLT, Int.reduceLE, Int.reduceGT, Int.reduceGE, reduceCtorEq, Nat.reduceEqDiff, List.getElem?_cons_zero, List.getElem?_cons_succ, Option.map_some, st4, lt4, la4, e5, e6]
  have hpl := q.lt
  have hp6 : H6.get p = some (.row false 7 [s, .int .i64 h.max, .bool true, cv, rv, .bool h.opened, ov]) := by
    rw [k6 p (by omega) (fun e => q.kp p (by exact .inr (.inl e)) rfl)]; exact hp4
  obtain ⟨H7, st7, hw7, hp7, n7, gn7, k7⟩ := st_row w6 (k := 4) (v := .slice H5.next 0 (re.length + 1) none) hp6 (by simp) rfl rfl rfl
  simp only [List.set_cons_succ, List.set_cons_zero] at hp7
  have tkl : ∀ j, rk = some j → j < H.next := fun j e => q.mb j (q.rs.own j e)
  have hg7 : H7.get H.next = some (.row false 2 [.nils, .nils]) := by
    rw [k7 _ (by omega), k6 _ (by omega) (fun e => by have := tkl _ e; omega), k4 _ (by omega), hx3.get _ (by omega), hx2.get _ (by omega)]; exact hg1
  have ht7 : At H7 G1.next 0 [d, u] := by
    obtain ⟨q1, ro, esz, cells, q2, q3⟩ := ht4
    exact ⟨by omega, ro, esz, cells, by rw [k7 _ (by omega), k6 _ (by omega) (fun e => by have := tkl _ e; omega)]; exact q2, q3⟩
  have la7 := ht7.lda (n := 2) rfl
  have st8 := x_st (n := 2) (v := .agg [d, u]) hg7 rfl rfl hel.2
  rw [show (V.agg [d, u]).cells = [d, u] from rfl] at st8
  have hca : At (H7.set H.next (.row false 2 [d, u])) H.next 0 [d, u] := ⟨by rw [Heap.set_next]; omega, false, 2, [d, u], set_get' _ _ _, by simp, fun j v hj => by rw [Nat.zero_add]; exact hj⟩
  have hcc := hca.cells (n := 2) rfl
  have hw8 := hw7.set hg7 (.row false 2 [d, u])
  have k8 : ∀ j, j ≠ H.next → (H7.set H.next (.row false 2 [d, u])).get j = H7.get j := fun j b => by rw [Heap.set_get, if_neg b]
  have n8 : (H7.set H.next (.row false 2 [d, u])).next = H7.next := rfl
  have gn8 : (H7.set H.next (.row false 2 [d, u])).gn = H7.gn := rfl
  generalize H7.set H.next (.row false 2 [d, u]) = H8 at *
  simp (maxSteps := 1000000) (implicitDefEqProofs := false) only [stp, if_true, if_false, Int.reduceEq, Int.reduceLT, Int.reduceLE, Int.reduceGT, Int.reduceGE, reduceCtorEq, Nat.reduceEqDiff, List.getElem?_cons_zero, List.getElem?_cons_succ, Option.map_some, st7, la7, st8, hcc]
  have kk : ∀ j, j < H.next → rk ≠ some j → j ≠ p → H8.get j = H.get j := fun j hj a b => by
    rw [k8 j (by omega), k7 j b, k6 j (by omega) a, old4 j hj b]
  have hM : ExtM M H H8 := ⟨by rw [gn8, gn7, gn6, gn4, hx13.gn], by omega, fun j hj hm => kk j hj (fun e => hm (q.rs.own j e)) (fun e => hm (by rw [e]; exact q.mp))⟩
  have hG : MGrow M (fun j => M j ∨ j = H5.next ∨ k1 = some j) H := fun j hj => by
    rcases hj with e | e | e
    · exact .inl e
    · exact .inr (by omega)
    · have := f1 j e
      exact .inr (by omega)
  have k1l : ∀ j, k1 = some j → j < G3.next := fun j e => by rw [e] at v1; exact v1.lt
  have v8 : Vec H8 cv 2 ei k1 := v1.keep (by omega) (fun j e => by
      have h1 := f1 j e
      have h2 := k1l j e
      rw [k8 j (by omega), k7 j (by omega), k6 j (by omega) (fun e => by have := tkl _ e; omega), k4 j (by omega)]) fun e hs => by
        rw [z1 e] at hs ⊢
        exact hs.empty (by omega)
  have tv8 : Vec H8 (.slice H5.next 0 (re.length + 1) none) 2 (re ++ [[d, u]]) (some H5.next) := v6.keep (by omega) (fun j e => by
      cases e
      rw [k8 _ (by omega), k7 _ (by omega)]) (fun e => by cases e)
  refine ⟨hw8, fun j => M j ∨ j = H5.next ∨ k1 = some j, d, u, by trivial, hel.2, hg0.step hM hG, ⟨cv, .slice H5.next 0 (re.length + 1) none, ov, ei, re ++ [[d, u]], oe, k1, some H5.next, ok, ?_, fun j hj => ?_⟩, hM.minus fun j hj hn => kk j hj ((fun a => a.2.2.2.1) (hN j hn)) (hN j hn).2.1, hG⟩
  rotate_left
  · obtain ⟨a1, a2, a3, a4, a5⟩ := hN j hj
    have hj' := q.mb j a1
    have c1 : k1 ≠ some j := fun e => by have := f1 j e; omega
    have c2 : some H5.next ≠ some j := fun e => by cases e; omega
    exact ⟨.inl a1, a2, by first | exact c1 | exact c2, by first | exact c1 | exact c2, a5⟩
  have hfs : StZ (fun j => M j ∨ j = H5.next ∨ k1 = some j) H8 cv ei gi k1 := ⟨v8, fun e F x => (by
      have hs := v8.sl
      rw [z1 e] at hs ⊢
      exact hs.empty x.next), fun j e => .inr (.inr e), All2.imp (fun a b r => r.step hM hG) hgi⟩
  have hts : StZ (fun j => M j ∨ j = H5.next ∨ k1 = some j) H8 (.slice H5.next 0 (re.length + 1) none) (re ++ [[d, u]]) (h.redo ++ [g]) (some H5.next) := ⟨tv8, (fun e => by cases e), fun j e => .inr (.inl (by cases e; rfl)), All2.append (All2.imp (fun a b r => r.step hM hG) q.rs.grp) ⟨hg0.step hM hG, trivial⟩⟩
  have okl : ∀ j, ok = some j → j < H.next := fun j e => q.mb j (q.os.own j e)
  exact {
    lt := by omega
    mp := .inl q.mp
    mb := fun j hj => by
      rcases hj with e | e | e
      · have := q.mb j e; omega
      · omega
      · have := k1l j e; omega
    at' := by rw [k8 p (by omega)]; exact hp7
    us := hfs
    rs := hts
    os := q.os.step hM hG fun j e => ⟨kk j (okl j e) (fun e2 => q.ro j e2 e) (q.kp j (.inr (.inr e))), .inl (q.os.own j e)⟩
    kp := fun j hj e => by
      subst e
      have a1 : ∀ i, k1 = some i → i ≠ j := fun i e2 e3 => by have := f1 i e2; omega
      have a2 : ∀ i, some H5.next = some i → i ≠ j := fun i e2 e3 => by cases e2; omega
      rcases hj with e | e | e
      · first | exact a1 _ e rfl | exact a2 _ e rfl
      · first | exact a1 _ e rfl | exact a2 _ e rfl
      · exact q.kp j (.inr (.inr e)) rfl
    ur := fun j e => by
      have a1 : ∀ i, k1 = some i → some H5.next ≠ some i := fun i e2 e3 => by cases e3; have := k1l _ e2; omega
      have a3 : ∀ i, k1 = some i → ok ≠ some i := fun i e2 e3 => by have := f1 _ e2; have := okl _ e3; omega
      have a4 : ∀ i, some H5.next = some i → ok ≠ some i := fun i e2 e3 => by cases e2; have := okl _ e3; omega
      first
      | exact ⟨a1 _ e, a3 _ e⟩
      | exact ⟨fun e2 => a1 _ e2 e, a4 _ e⟩
    ro := fun j e => by
      have a3 : ∀ i, k1 = some i → ok ≠ some i := fun i e2 e3 => by have := f1 _ e2; have := okl _ e3; omega
      have a4 : ∀ i, some H5.next = some i → ok ≠ some i := fun i e2 e3 => by cases e2; have := okl _ e3; omega
      first | exact a3 _ e | exact a4 _ e }

set_option maxRecDepth 20000 in
set_option maxHeartbeats 1000000 in
theorem moveR_no {H : Heap} {M : Nat → Prop} {p : Nat} {s : V} {h : HistC} (q : HistI H M p s h) (hn : h.opened = true ∨ h.redo = []) :
    SCalls PP 40 [.ptr p 0, .ptr p (0 + 4), .ptr p (0 + 3)] H fun r H' => Ext H H' ∧ WF H' ∧ r = .tup [.agg [.nils, .nils], .int .i64 (if h.opened then 9 else 10)] := by
  refine SCalls.go c40 (by simp [fn40]) fun hw => ?_
  obtain ⟨uv, rv, ov, ue, re, oe, uk, rk, ok, q⟩ := q
  have al := x_alloc H [.nils, .nils] rfl
  have hx1 : Ext H (H.new (.row false 2 [.nils, .nils])) := (Ext.refl H).new _
  have hw1 : WF (H.new (.row false 2 [.nils, .nils])) := hw.new _
  have hg1 := new_get H (.row false 2 [.nils, .nils])
  have hn1 : H.next < (H.new (.row false 2 [.nils, .nils])).next := Nat.lt_succ_self _
  rw [show ([V.nils, .nils] : List V).length = 2 from rfl] at al
  generalize H.new (.row false 2 [.nils, .nils]) = G at *
  have lf := (q.at7.ext hx1).ld (j := 4) (v := rv) rfl 1
  have lo := (q.at7.ext hx1).ld (j := 5) (v := .bool h.opened) rfl 1
  have ln : ∀ F, exec .len [rv] F = some (.int .i64 h.redo.length, F) := fun F => by rw [← q.rs.grp.length]; exact q.rs.vec.len F
  have st := x_st (n := 2) (v := .agg [.nils, .nils]) hg1 rfl rfl rfl
  have hca : At (G.set H.next (.row false 2 [.nils, .nils])) H.next 0 [.nils, .nils] := ⟨hn1, false, 2, [.nils, .nils], set_get' _ _ _, by simp, fun j v hj => by rw [Nat.zero_add]; exact hj⟩
  have hcs : (V.agg [.nils, .nils]).cells = [.nils, .nils] := rfl
  rw [hcs] at st
  have hcc := hca.cells (n := 2) rfl
  have hxx : Ext H (G.set H.next (.row false 2 [.nils, .nils])) := hx1.set (Nat.le_refl _) _
  have hww := hw1.set hg1 (.row false 2 [.nils, .nils])
  generalize G.set H.next (.row false 2 [.nils, .nils]) = G2 at *
  by_cases ho : h.opened = true
  · rw [ho] at lo ⊢
    simp (maxSteps := 1000000) (implicitDefEqProofs := false) only [stp, if_true, if_false, Int.reduceEq, Int.reduceLT, Int.reduceLE, Int.reduceGT, Int.reduceGE, reduceCtorEq, Nat.reduceEqDiff, List.getElem?_cons_zero, List.getElem?_cons_succ, Option.map_some, fn40, enterFr, List.length, List.range, List.range.loop, List.zip, List.zipWith, al, lf, ln, lo, x_build0, st, hcc]
    exact ⟨hxx, hww, by trivial⟩
  · have ho' : h.opened = false := by simpa using ho
    have he : h.redo = [] := hn.resolve_left ho
    rw [ho'] at lo ⊢
    rw [he] at ln
    have hsub : IntKind.i64.wrap (((0 : Nat) : Int) - 1) = -1 := by decide
    rw [List.length_nil] at ln
    have hlt : (-1 : Int) < 0 := by decide
    simp (maxSteps := 1000000) (implicitDefEqProofs := false) only [stp, if_true, if_false, Int.reduceEq, Int.reduceLT, Int.reduceLE, Int.reduceGT, Int.reduceGE, reduceCtorEq, Nat.reduceEqDiff, List.getElem?_cons_zero, List.getElem?_cons_succ, Option.map_some, fn40, enterFr, List.length, List.range, List.range.loop, List.zip, List.zipWith, al, lf, ln, hsub, lo, hlt, x_build0, st, hcc]
    exact ⟨hxx, hww, by trivial⟩
set_option maxRecDepth 20000 in
set_option maxHeartbeats 4000000 in
theorem moveR_ok {H : Heap} {M N : Nat → Prop} {p : Nat} {s : V} {h : HistC} (q : HistD H M N p s h) (ho : h.opened = false) {gi : List GrpC} {g : GrpC} (hg : h.redo = gi ++ [g]) (hl : h.redo.length ≤ big) (hr : h.undo.length + 1 ≤ big) :
    SCalls PP 40 [.ptr p 0, .ptr p (0 + 4), .ptr p (0 + 3)] H fun r H' => WF H' ∧ ∃ M' d u, r = .tup [.agg [d, u], .int .i64 0] ∧ ([d, u] : List V).all V.one = true ∧ GrpZ M' H' [d, u] g ∧ HistD H' M' N p s { h with redo := gi, undo := h.undo ++ [g] } ∧ ExtM (fun j => M j ∧ ¬ N j) H H' ∧ MGrow M M' H := by
  refine SCalls.go c40 (by simp [fn40]) fun hw => ?_
  obtain ⟨uv, rv, ov, ue, re, oe, uk, rk, ok, q, hN⟩ := q
  unfold big at hl hr
  -- the newest group
  have hgrp := q.rs.grp
  rw [hg] at hgrp
  obtain ⟨ei, e0, hue, hgi, hg0⟩ := hgrp.snoc
  have hel := q.rs.vec.1 e0 (by rw [hue]; simp)
  have heil := hgi.length
  have hflen : h.redo.length = ei.length + 1 := by rw [hg, List.length_append, ← heil]; rfl
  have hne : re ≠ [] := by rw [hue]; simp
  have hgl : ei.length ≤ re.length := by rw [hue]; simp
  obtain ⟨d, u, hedu⟩ : ∃ d u, e0 = [d, u] := by
    obtain ⟨d, u, _, _, h1, _⟩ := hg0
    exact ⟨d, u, h1⟩
  subst hedu
  -- the result's box
  have al := x_alloc H [.nils, .nils] rfl
  have hx1 : Ext H (H.new (.row false 2 [.nils, .nils])) := (Ext.refl H).new _
  have hw1 : WF (H.new (.row false 2 [.nils, .nils])) := hw.new _
  have hg1 := new_get H (.row false 2 [.nils, .nils])
  have hn1 : (H.new (.row false 2 [.nils, .nils])).next = H.next + 1 := rfl
  rw [show ([V.nils, .nils] : List V).length = 2 from rfl] at al
  generalize H.new (.row false 2 [.nils, .nils]) = G1 at *
  have lf := (q.at7.ext hx1).ld (j := 4) (v := rv) rfl 1
  have lo := (q.at7.ext hx1).ld (j := 5) (v := .bool h.opened) rfl 1
  rw [ho] at lo
  have ln : ∀ F, exec .len [rv] F = some (.int .i64 ((ei.length + 1 : Nat) : Int), F) := fun F => by rw [← hflen, ← q.rs.grp.length]; exact q.rs.vec.len F
  have hsub : IntKind.i64.wrap (((ei.length + 1 : Nat) : Int) - 1) = ((ei.length : Nat) : Int) := by rw [wrap_i64 (by omega) (by omega)]; omega
  have hlt : ¬ (((ei.length : Nat) : Int) < 0) := by omega
  have hsf1 := q.rs.vec.ext hx1
  obtain ⟨i1, o1, ha1, ht1⟩ := hsf1.sl.ia (H' := G1) (i := ei.length) (e := [d, u]) (by rw [hue]; simp) .i64
  have la1 := ht1.lda (n := 2) rfl
  obtain ⟨G2, hx2, hw2, ht2, c1, c2⟩ := x_copy (G := G1) (Ext.refl G1) hw1 (z := [.nils, .nils]) (e := [d, u]) (n := 2) rfl rfl rfl hel.2
  have hx12 := hx1.trans hx2
  have lf2 := (q.at7.ext hx12).ld (j := 4) (v := rv) rfl 1
  obtain ⟨a, sa, hsa⟩ := vec_take (q.rs.vec.ext hx12) hne hgl
  have htk : re.take ei.length = ei := by rw [hue]; simp
  rw [htk] at hsa
  simp (maxSteps := 1000000) (implicitDefEqProofs := false) only [stp, if_true, if_false, Int.reduceEq, Int.reduceLT, Int.reduceLE, Int.reduceGT, Int.reduceGE, reduceCtorEq, Nat.reduceEqDiff, List.getElem?_cons_zero, List.getElem?_cons_succ, Option.map_some, fn40, enterFr, List.length, List.range, List.range.loop, List.zip, List.zipWith, al, lf, ln, hsub, lo, hlt, ha1, la1, c1, c2, lf2, sa]
  refine SCalls.mono (cloneG_calls hsa (by unfold big; omega)) ?_
  rintro cv G3 ⟨hx3, hw3, k1, v1, f1, _, z1⟩
  have hx13 := hx12.trans hx3
  have hp3 : G3.get p = some (.row false 7 [s, .int .i64 h.max, .bool true, uv, rv, .bool h.opened, ov]) := by rw [hx13.get p q.lt]; exact q.at'
  obtain ⟨G4, st4, hw4, hp4, n4, gn4, k4⟩ := st_row hw3 (k := 4) (v := cv) hp3 (by simp) v1.one.2 v1.one.1 rfl
  simp only [List.set_cons_succ, List.set_cons_zero] at hp4
  have b2 := hx1.next
  have b3 := hx2.next
  have b4 := hx3.next
  have hat4 : At G4 p 0 [s, .int .i64 h.max, .bool true, uv, cv, .bool h.opened, ov] := ⟨by have := q.lt; omega, false, 7, _, hp4, by simp, fun j v hj => by rw [Nat.zero_add]; exact hj⟩
  have lt4 := hat4.ld (j := 3) (v := uv) rfl 1
  have ht4 : At G4 G1.next 0 [d, u] := by
    obtain ⟨q1, ro, esz, cells, q2, q3⟩ := ht2.ext hx3
    exact ⟨by omega, ro, esz, cells, by rw [k4 _ (by have := q.lt; omega)]; exact q2, q3⟩
  have la4 := ht4.lda (n := 2) rfl
  have old4 : ∀ j, j < H.next → j ≠ p → G4.get j = H.get j := fun j hj hp => by rw [k4 j hp, hx13.get j hj]
  have tv4 : Vec G4 uv 2 ue uk := q.us.vec.keep (by omega) (fun j e => by
      have hj := q.us.vec
      rw [e] at hj
      exact old4 j hj.lt (q.kp j (.inl e))) fun e _ => q.us.st e G4 ⟨by rw [gn4, hx13.gn], by omega, fun j hj hm => old4 j hj (fun e => hm (by rw [e]; exact q.mp))⟩
  obtain ⟨H5, H6, e5, e6, v6, o6, w6, n5, n6, gn6, k6⟩ := grp_push hw4 tv4 (d := d) (u := u) hel.2 (by rw [q.us.grp.length]; exact hr)
  simp (maxSteps := 1000000) (implicitDefEqProofs := false) only [stp, if_true, if_false, Int.reduceEq, Int.reduceLT, Int.reduceLE, Int.reduceGT, Int.reduceGE, reduceCtorEq, Nat.reduceEqDiff, List.getElem?_cons_zero, List.getElem?_cons_succ, Option.map_some, st4, lt4, la4, e5, e6]
  have hpl := q.lt
  have hp6 : H6.get p = some (.row false 7 [s, .int .i64 h.max, .bool true, uv, cv, .bool h.opened, ov]) := by
    rw [k6 p (by omega) (fun e => q.kp p (by exact .inl e) rfl)]; exact hp4
  obtain ⟨H7, st7, hw7, hp7, n7, gn7, k7⟩ := st_row w6 (k := 3) (v := .slice H5.next 0 (ue.length + 1) none) hp6 (by simp) rfl rfl rfl
  simp only [List.set_cons_succ, List.set_cons_zero] at hp7
  have tkl : ∀ j, uk = some j → j < H.next := fun j e => q.mb j (q.us.own j e)
  have hg7 : H7.get H.next = some (.row false 2 [.nils, .nils]) := by
    rw [k7 _ (by omega), k6 _ (by omega) (fun e => by have := tkl _ e; omega), k4 _ (by omega), hx3.get _ (by omega), hx2.get _ (by omega)]; exact hg1
  have ht7 : At H7 G1.next 0 [d, u] := by
    obtain ⟨q1, ro, esz, cells, q2, q3⟩ := ht4
    exact ⟨by omega, ro, esz, cells, by rw [k7 _ (by omega), k6 _ (by omega) (fun e => by have := tkl _ e; omega)]; exact q2, q3⟩
  have la7 := ht7.lda (n := 2) rfl
  have st8 := x_st (n := 2) (v := .agg [d, u]) hg7 rfl rfl hel.2
  rw [show (V.agg [d, u]).cells = [d, u] from rfl] at st8
  have hca : At (H7.set H.next (.row false 2 [d, u])) H.next 0 [d, u] := ⟨by rw [Heap.set_next]; omega, false, 2, [d, u], set_get' _ _ _, by simp, fun j v hj => by rw [Nat.zero_add]; exact hj⟩
  have hcc := hca.cells (n := 2) rfl
  have hw8 := hw7.set hg7 (.row false 2 [d, u])
  have k8 : ∀ j, j ≠ H.next → (H7.set H.next (.row false 2 [d, u])).get j = H7.get j := fun j b => by rw [Heap.set_get, if_neg b]
  have n8 : (H7.set H.next (.row false 2 [d, u])).next = H7.next := rfl
  have gn8 : (H7.set H.next (.row false 2 [d, u])).gn = H7.gn := rfl
  generalize H7.set H.next (.row false 2 [d, u]) = H8 at *
  simp (maxSteps := 1000000) (implicitDefEqProofs := false) only [stp, if_true, if_false, Int.reduceEq, Int.reduceLT, Int.reduceLE, Int.reduceGT, Int.reduceGE, reduceCtorEq, Nat.reduceEqDiff, List.getElem?_cons_zero, List.getElem?_cons_succ, Option.map_some, st7, la7, st8, hcc]
  have kk : ∀ j, j < H.next → uk ≠ some j → j ≠ p → H8.get j = H.get j := fun j hj a b => by
    rw [k8 j (by omega), k7 j b, k6 j (by omega) a, old4 j hj b]
  have hM : ExtM M H H8 := ⟨by rw [gn8, gn7, gn6, gn4, hx13.gn], by omega, fun j hj hm => kk j hj (fun e => hm (q.us.own j e)) (fun e => hm (by rw [e]; exact q.mp))⟩
  have hG : MGrow M (fun j => M j ∨ j = H5.next ∨ k1 = some j) H := fun j hj => by
    rcases hj with e | e | e
    · exact .inl e
    · exact .inr (by omega)
    · have := f1 j e
      exact .inr (by omega)
  have k1l : ∀ j, k1 = some j → j < G3.next := fun j e => by rw [e] at v1; exact v1.lt
  have v8 : Vec H8 cv 2 ei k1 := v1.keep (by omega) (fun j e => by
      have h1 := f1 j e
      have h2 := k1l j e
      rw [k8 j (by omega), k7 j (by omega), k6 j (by omega) (fun e => by have := tkl _ e; omega), k4 j (by omega)]) fun e hs => by
        rw [z1 e] at hs ⊢
        exact hs.empty (by omega)
  have tv8 : Vec H8 (.slice H5.next 0 (ue.length + 1) none) 2 (ue ++ [[d, u]]) (some H5.next) := v6.keep (by omega) (fun j e => by
      cases e
      rw [k8 _ (by omega), k7 _ (by omega)]) (fun e => by cases e)
  refine ⟨hw8, fun j => M j ∨ j = H5.next ∨ k1 = some j, d, u, by trivial, hel.2, hg0.step hM hG, ⟨.slice H5.next 0 (ue.length + 1) none, cv, ov, ue ++ [[d, u]], ei, oe, some H5.next, k1, ok, ?_, fun j hj => ?_⟩, hM.minus fun j hj hn => kk j hj ((fun a => a.2.2.1) (hN j hn)) (hN j hn).2.1, hG⟩
  rotate_left
  · obtain ⟨a1, a2, a3, a4, a5⟩ := hN j hj
    have hj' := q.mb j a1
    have c1 : k1 ≠ some j := fun e => by have := f1 j e; omega
    have c2 : some H5.next ≠ some j := fun e => by cases e; omega
    exact ⟨.inl a1, a2, by first | exact c1 | exact c2, by first | exact c1 | exact c2, a5⟩
  have hfs : StZ (fun j => M j ∨ j = H5.next ∨ k1 = some j) H8 cv ei gi k1 := ⟨v8, fun e F x => (by
      have hs := v8.sl
      rw [z1 e] at hs ⊢
      exact hs.empty x.next), fun j e => .inr (.inr e), All2.imp (fun a b r => r.step hM hG) hgi⟩
  have hts : StZ (fun j => M j ∨ j = H5.next ∨ k1 = some j) H8 (.slice H5.next 0 (ue.length + 1) none) (ue ++ [[d, u]]) (h.undo ++ [g]) (some H5.next) := ⟨tv8, (fun e => by cases e), fun j e => .inr (.inl (by cases e; rfl)), All2.append (All2.imp (fun a b r => r.step hM hG) q.us.grp) ⟨hg0.step hM hG, trivial⟩⟩
  have okl : ∀ j, ok = some j → j < H.next := fun j e => q.mb j (q.os.own j e)
  exact {
    lt := by omega
    mp := .inl q.mp
    mb := fun j hj => by
      rcases hj with e | e | e
      · have := q.mb j e; omega
      · omega
      · have := k1l j e; omega
    at' := by rw [k8 p (by omega)]; exact hp7
    rs := hfs
    us := hts
    os := q.os.step hM hG fun j e => ⟨kk j (okl j e) (fun e2 => (q.ur j e2).2 e) (q.kp j (.inr (.inr e))), .inl (q.os.own j e)⟩
    kp := fun j hj e => by
      subst e
      have a1 : ∀ i, k1 = some i → i ≠ j := fun i e2 e3 => by have := f1 i e2; omega
      have a2 : ∀ i, some H5.next = some i → i ≠ j := fun i e2 e3 => by cases e2; omega
      rcases hj with e | e | e
      · first | exact a1 _ e rfl | exact a2 _ e rfl
      · first | exact a1 _ e rfl | exact a2 _ e rfl
      · exact q.kp j (.inr (.inr e)) rfl
    ur := fun j e => by
      have a1 : ∀ i, k1 = some i → some H5.next ≠ some i := fun i e2 e3 => by cases e3; have := k1l _ e2; omega
      have a3 : ∀ i, k1 = some i → ok ≠ some i := fun i e2 e3 => by have := f1 _ e2; have := okl _ e3; omega
      have a4 : ∀ i, some H5.next = some i → ok ≠ some i := fun i e2 e3 => by cases e2; have := okl _ e3; omega
      first
      | exact ⟨a1 _ e, a3 _ e⟩
      | exact ⟨fun e2 => a1 _ e2 e, a4 _ e⟩
    ro := fun j e => by
      have a3 : ∀ i, k1 = some i → ok ≠ some i := fun i e2 e3 => by have := f1 _ e2; have := okl _ e3; omega
      have a4 : ∀ i, some H5.next = some i → ok ≠ some i := fun i e2 e3 => by cases e2; have := okl _ e3; omega
      first | exact a3 _ e | exact a4 _ e }
end Go.Proofs.YtkmaikggdbielaaGreatDoor.Fw

