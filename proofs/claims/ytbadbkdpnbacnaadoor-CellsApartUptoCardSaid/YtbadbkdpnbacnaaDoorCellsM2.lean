/- Part 2 of the proof. Two rows of cells are the same exactly if their deltas are, and then their texts are the same too (CellsApart). The one condition: the arguments hold together at most 2^20 data, as the statement's own bound says. -/
import Derived.Test.YtbadbkdpnbacnaaDoorCellsM1

/- The abstract code of functions of the program, and that it is theirs. No condition. Printed by a program (wip/Print.lean, wip/mkfns.py). -/
namespace Go.Proofs.YtbadbkdpnbacnaaDoor.Fw
open Go

/-- slices.SortFunc[[]rubric/api.Key,rubric/api.Key] -/
def fn26 : AFn := ⟨14,
 (.seq
  (.region [⟨some 5, none, .ex (.mov) [.s 0]⟩,
    ⟨some 6, none, .ex (.len) [.s 5]⟩,
    ⟨some 4, none, .ex (.mov) [.s 6]⟩])
  (.region [⟨some 7, none, .ex (.mov) [.s 0]⟩,
    ⟨some 8, none, .ex (.mov) [.s 4]⟩,
    ⟨some 9, none, .ex (.mov) [.s 4]⟩,
    ⟨some 10, none, .ex (.toInt .u64) [.s 9]⟩,
    ⟨some 11, none, .callf 55 [.s 10]⟩,
    ⟨some 12, none, .ex (.mov) [.s 1]⟩,
    ⟨some 13, none, .callf 54 [.s 7, .k (.int .i64 0), .s 8, .s 11, .s 12]⟩])),
 []⟩
theorem c26 : compFn Go.Proofs.Tryd.prog 26 = some fn26 := by kernel_rfl

/-- slices.pdqsortCmpFunc[rubric/api.Key] -/
def fn54 : AFn := ⟨148,
 (.seq
  (.region [⟨some 10, none, .ex (.mov) [.k (.bool true)]⟩])
  (.seq
   (.region [⟨some 11, none, .ex (.mov) [.k (.bool true)]⟩])
   (.block 0
    (.loop
     (.block 1
      (.seq
       (.region [⟨some 21, none, .ex (.mov) [.s 2]⟩,
         ⟨some 22, none, .ex (.mov) [.s 1]⟩,
         ⟨some 23, none, .ex (.ibin .sub) [.s 21, .s 22]⟩,
         ⟨some 12, none, .ex (.mov) [.s 23]⟩])
       (.seq
        (.seq
         (.region [⟨some 24, none, .ex (.mov) [.s 12]⟩,
           ⟨some 25, none, .ex (.ibin .leq) [.s 24, .k (.int .i64 12)]⟩])
         (.cond (.s 25)
          (.seq
           (.region [⟨some 26, none, .ex (.mov) [.s 0]⟩,
             ⟨some 27, none, .ex (.mov) [.s 1]⟩,
             ⟨some 28, none, .ex (.mov) [.s 2]⟩,
             ⟨some 29, none, .ex (.mov) [.s 4]⟩,
             ⟨some 30, none, .callf 75 [.s 26, .s 27, .s 28, .s 29]⟩])
           .ret)
          .skip))
        (.seq
         (.seq
          (.region [⟨some 31, none, .ex (.mov) [.s 3]⟩,
            ⟨some 32, none, .ex (.ibin .eql) [.s 31, .k (.int .i64 0)]⟩])
          (.cond (.s 32)
           (.seq
            (.region [⟨some 33, none, .ex (.mov) [.s 0]⟩,
              ⟨some 34, none, .ex (.mov) [.s 1]⟩,
              ⟨some 35, none, .ex (.mov) [.s 2]⟩,
              ⟨some 36, none, .ex (.mov) [.s 4]⟩,
              ⟨some 37, none, .callf 76 [.s 33, .s 34, .s 35, .s 36]⟩])
            .ret)
           .skip))
         (.seq
          (.seq
           (.region [⟨some 38, none, .ex (.mov) [.s 10]⟩,
             ⟨some 39, none, .ex (.bnot) [.s 38]⟩])
           (.cond (.s 39)
            (.seq
             (.region [⟨some 40, none, .ex (.mov) [.s 0]⟩,
               ⟨some 41, none, .ex (.mov) [.s 1]⟩,
               ⟨some 42, none, .ex (.mov) [.s 2]⟩,
               ⟨some 43, none, .ex (.mov) [.s 4]⟩,
               ⟨some 44, none, .callf 77 [.s 40, .s 41, .s 42, .s 43]⟩])
             (.region [⟨some 45, none, .ex (.mov) [.s 3]⟩,
               ⟨some 46, none, .ex (.ibin .sub) [.s 45, .k (.int .i64 1)]⟩,
               ⟨some 3, none, .ex (.mov) [.s 46]⟩]))
            .skip))
          (.seq
           (.region [⟨some 48, none, .ex (.mov) [.s 0]⟩,
             ⟨some 49, none, .ex (.mov) [.s 1]⟩,
             ⟨some 50, none, .ex (.mov) [.s 2]⟩,
             ⟨some 51, none, .ex (.mov) [.s 4]⟩,
             ⟨some 52, none, .callf 78 [.s 48, .s 49, .s 50, .s 51]⟩,
             ⟨some 47, none, .ex (.mov) [.s 52]⟩,
             ⟨some 53, none, .ex (.ext 0) [.s 47]⟩,
             ⟨some 54, none, .ex (.ext 1) [.s 47]⟩,
             ⟨some 13, none, .ex (.mov) [.s 53]⟩,
             ⟨some 14, none, .ex (.mov) [.s 54]⟩])
           (.seq
            (.seq
             (.region [⟨some 55, none, .ex (.mov) [.s 14]⟩,
               ⟨some 56, none, .ex (.ibin .eql) [.s 55, .k (.int .i64 2)]⟩])
             (.cond (.s 56)
              (.seq
               (.region [⟨some 57, none, .ex (.mov) [.s 0]⟩,
                 ⟨some 58, none, .ex (.mov) [.s 1]⟩,
                 ⟨some 59, none, .ex (.mov) [.s 2]⟩,
                 ⟨some 60, none, .ex (.mov) [.s 4]⟩,
                 ⟨some 61, none, .callf 79 [.s 57, .s 58, .s 59, .s 60]⟩])
               (.seq
                (.region [⟨some 62, none, .ex (.mov) [.s 2]⟩,
                  ⟨some 63, none, .ex (.ibin .sub) [.s 62, .k (.int .i64 1)]⟩,
                  ⟨some 64, none, .ex (.mov) [.s 13]⟩,
                  ⟨some 65, none, .ex (.mov) [.s 1]⟩,
                  ⟨some 66, none, .ex (.ibin .sub) [.s 64, .s 65]⟩,
                  ⟨some 67, none, .ex (.ibin .sub) [.s 63, .s 66]⟩,
                  ⟨some 13, none, .ex (.mov) [.s 67]⟩])
                (.region [⟨some 14, none, .ex (.mov) [.k (.int .i64 1)]⟩])))
              .skip))
            (.seq
             (.seq
              (.region [⟨some 68, none, .ex (.mov) [.s 10]⟩,
                ⟨some 69, none, .ex (.mov) [.s 68]⟩,
                ⟨some 70, some (69, true), .ex (.mov) [.s 11]⟩,
                ⟨some 71, none, .ex (.pick) [.s 69, .s 70, .k (.bool false)]⟩,
                ⟨some 72, none, .ex (.mov) [.s 71]⟩,
                ⟨some 73, some (72, true), .ex (.mov) [.s 14]⟩,
                ⟨some 74, some (72, true), .ex (.ibin .eql) [.s 73, .k (.int .i64 1)]⟩,
                ⟨some 75, none, .ex (.pick) [.s 72, .s 74, .k (.bool false)]⟩])
              (.cond (.s 75)
               (.seq
                (.region [⟨some 76, none, .ex (.mov) [.s 0]⟩,
                  ⟨some 77, none, .ex (.mov) [.s 1]⟩,
                  ⟨some 78, none, .ex (.mov) [.s 2]⟩,
                  ⟨some 79, none, .ex (.mov) [.s 4]⟩,
                  ⟨some 80, none, .callf 80 [.s 76, .s 77, .s 78, .s 79]⟩])
                (.cond (.s 80)
                 .ret
                 .skip))
               .skip))
             (.seq
              (.seq
               (.draw (.op ⟨some 81, none, .ex (.mov) [.s 1]⟩ (.op ⟨some 82, none, .ex (.ibin .gtr) [.s 81, .k (.int .i64 0)]⟩ (.op ⟨some 83, none, .ex (.mov) [.s 82]⟩ (.op ⟨some 84, some (83, true), .ex (.mov) [.s 4]⟩ (.op ⟨some 85, some (83, true), .ex (.mov) [.s 0]⟩ (.op ⟨some 86, some (83, true), .ex (.mov) [.s 1]⟩ (.op ⟨some 87, some (83, true), .ex (.ibin .sub) [.s 86, .k (.int .i64 1)]⟩ (.op ⟨some 88, some (83, true), .ex (.ia 6) [.s 85, .s 87]⟩ (.op ⟨some 89, some (83, true), .ex (.lda 6) [.s 88]⟩ (.op ⟨some 90, some (83, true), .ex (.mov) [.s 0]⟩ (.op ⟨some 91, some (83, true), .ex (.mov) [.s 13]⟩ (.op ⟨some 92, some (83, true), .ex (.ia 6) [.s 90, .s 91]⟩ (.op ⟨some 93, some (83, true), .ex (.lda 6) [.s 92]⟩ (.op ⟨some 94, some (83, true), .callv (.s 84) [.s 89, .s 93]⟩ (.op ⟨some 95, some (83, true), .ex (.ibin .lss) [.s 94, .k (.int .i64 0)]⟩ (.op ⟨some 96, some (83, true), .ex (.bnot) [.s 95]⟩ (.op ⟨some 97, none, .ex (.pick) [.s 83, .s 96, .k (.bool false)]⟩ .done))))))))))))))))))
               (.cond (.s 97)
                (.seq
                 (.region [⟨some 98, none, .ex (.mov) [.s 0]⟩,
                   ⟨some 99, none, .ex (.mov) [.s 1]⟩,
                   ⟨some 100, none, .ex (.mov) [.s 2]⟩,
                   ⟨some 101, none, .ex (.mov) [.s 13]⟩,
                   ⟨some 102, none, .ex (.mov) [.s 4]⟩,
                   ⟨some 103, none, .callf 81 [.s 98, .s 99, .s 100, .s 101, .s 102]⟩,
                   ⟨some 15, none, .ex (.mov) [.s 103]⟩])
                 (.seq
                  (.region [⟨some 104, none, .ex (.mov) [.s 15]⟩,
                    ⟨some 1, none, .ex (.mov) [.s 104]⟩])
                  (.exit 1)))
                .skip))
              (.seq
               (.region [⟨some 106, none, .ex (.mov) [.s 0]⟩,
                 ⟨some 107, none, .ex (.mov) [.s 1]⟩,
                 ⟨some 108, none, .ex (.mov) [.s 2]⟩,
                 ⟨some 109, none, .ex (.mov) [.s 13]⟩,
                 ⟨some 110, none, .ex (.mov) [.s 4]⟩,
                 ⟨some 111, none, .callf 82 [.s 106, .s 107, .s 108, .s 109, .s 110]⟩,
                 ⟨some 105, none, .ex (.mov) [.s 111]⟩,
                 ⟨some 112, none, .ex (.ext 0) [.s 105]⟩,
                 ⟨some 113, none, .ex (.ext 1) [.s 105]⟩,
                 ⟨some 16, none, .ex (.mov) [.s 112]⟩,
                 ⟨some 17, none, .ex (.mov) [.s 113]⟩])
               (.seq
                (.region [⟨some 114, none, .ex (.mov) [.s 17]⟩,
                  ⟨some 11, none, .ex (.mov) [.s 114]⟩])
                (.seq
                 (.region [⟨some 115, none, .ex (.mov) [.s 16]⟩,
                   ⟨some 116, none, .ex (.mov) [.s 1]⟩,
                   ⟨some 117, none, .ex (.ibin .sub) [.s 115, .s 116]⟩,
                   ⟨some 118, none, .ex (.mov) [.s 2]⟩,
                   ⟨some 119, none, .ex (.mov) [.s 16]⟩,
                   ⟨some 120, none, .ex (.ibin .sub) [.s 118, .s 119]⟩,
                   ⟨some 18, none, .ex (.mov) [.s 117]⟩,
                   ⟨some 19, none, .ex (.mov) [.s 120]⟩])
                 (.seq
                  (.region [⟨some 121, none, .ex (.mov) [.s 12]⟩,
                    ⟨some 122, none, .ex (.ibin .quo) [.s 121, .k (.int .i64 8)]⟩,
                    ⟨some 20, none, .ex (.mov) [.s 122]⟩])
                  (.seq
                   (.region [⟨some 123, none, .ex (.mov) [.s 18]⟩,
                     ⟨some 124, none, .ex (.mov) [.s 19]⟩,
                     ⟨some 125, none, .ex (.ibin .lss) [.s 123, .s 124]⟩])
                   (.cond (.s 125)
                    (.seq
                     (.region [⟨some 126, none, .ex (.mov) [.s 18]⟩,
                       ⟨some 127, none, .ex (.mov) [.s 20]⟩,
                       ⟨some 128, none, .ex (.ibin .geq) [.s 126, .s 127]⟩,
                       ⟨some 10, none, .ex (.mov) [.s 128]⟩])
                     (.seq
                      (.region [⟨some 129, none, .ex (.mov) [.s 0]⟩,
                        ⟨some 130, none, .ex (.mov) [.s 1]⟩,
                        ⟨some 131, none, .ex (.mov) [.s 16]⟩,
                        ⟨some 132, none, .ex (.mov) [.s 3]⟩,
                        ⟨some 133, none, .ex (.mov) [.s 4]⟩,
                        ⟨some 134, none, .callf 54 [.s 129, .s 130, .s 131, .s 132, .s 133]⟩])
                      (.region [⟨some 135, none, .ex (.mov) [.s 16]⟩,
                        ⟨some 136, none, .ex (.ibin .add) [.s 135, .k (.int .i64 1)]⟩,
                        ⟨some 1, none, .ex (.mov) [.s 136]⟩])))
                    (.seq
                     (.region [⟨some 137, none, .ex (.mov) [.s 19]⟩,
                       ⟨some 138, none, .ex (.mov) [.s 20]⟩,
                       ⟨some 139, none, .ex (.ibin .geq) [.s 137, .s 138]⟩,
                       ⟨some 10, none, .ex (.mov) [.s 139]⟩])
                     (.seq
                      (.region [⟨some 140, none, .ex (.mov) [.s 0]⟩,
                        ⟨some 141, none, .ex (.mov) [.s 16]⟩,
                        ⟨some 142, none, .ex (.ibin .add) [.s 141, .k (.int .i64 1)]⟩,
                        ⟨some 143, none, .ex (.mov) [.s 2]⟩,
                        ⟨some 144, none, .ex (.mov) [.s 3]⟩,
                        ⟨some 145, none, .ex (.mov) [.s 4]⟩,
                        ⟨some 146, none, .callf 54 [.s 140, .s 142, .s 143, .s 144, .s 145]⟩])
                      (.region [⟨some 147, none, .ex (.mov) [.s 16]⟩,
                        ⟨some 2, none, .ex (.mov) [.s 147]⟩])))))))))))))))))))))),
 []⟩
theorem c54 : compFn Go.Proofs.Tryd.prog 54 = some fn54 := by kernel_rfl

/-- math/bits.Len -/
def fn55 : AFn := ⟨8,
 (.seq
  (.region [⟨some 2, none, .ex (.mov) [.k (.int .i64 0)]⟩])
  (.seq
   (.cond (.k (.bool false))
    (.seq
     (.region [⟨some 3, none, .ex (.mov) [.s 0]⟩,
       ⟨some 4, none, .ex (.toInt .u32) [.s 3]⟩,
       ⟨some 5, none, .callf 83 [.s 4]⟩,
       ⟨some 2, none, .ex (.mov) [.s 5]⟩])
     .ret)
    .skip)
   (.seq
    (.region [⟨some 6, none, .ex (.mov) [.s 0]⟩,
      ⟨some 7, none, .callf 84 [.s 6]⟩,
      ⟨some 2, none, .ex (.mov) [.s 7]⟩])
    .ret))),
 [.t 2]⟩
theorem c55 : compFn Go.Proofs.Tryd.prog 55 = some fn55 := by kernel_rfl

/-- slices.insertionSortCmpFunc[rubric/api.Key] -/
def fn75 : AFn := ⟨53,
 (.seq
  (.region [⟨some 10, none, .ex (.mov) [.s 1]⟩,
    ⟨some 11, none, .ex (.ibin .add) [.s 10, .k (.int .i64 1)]⟩,
    ⟨some 8, none, .ex (.mov) [.s 11]⟩])
  (.block 0
   (.loop
    (.seq
     (.seq
      (.region [⟨some 12, none, .ex (.mov) [.s 8]⟩,
        ⟨some 13, none, .ex (.mov) [.s 2]⟩,
        ⟨some 14, none, .ex (.ibin .lss) [.s 12, .s 13]⟩])
      (.cond (.s 14)
       .skip
       (.exit 0)))
     (.seq
      (.block 1
       (.seq
        (.region [⟨some 17, none, .ex (.mov) [.s 8]⟩,
          ⟨some 9, none, .ex (.mov) [.s 17]⟩])
        (.block 2
         (.loop
          (.seq
           (.seq
            (.draw (.op ⟨some 18, none, .ex (.mov) [.s 9]⟩ (.op ⟨some 19, none, .ex (.mov) [.s 1]⟩ (.op ⟨some 20, none, .ex (.ibin .gtr) [.s 18, .s 19]⟩ (.op ⟨some 21, none, .ex (.mov) [.s 20]⟩ (.op ⟨some 22, some (21, true), .ex (.mov) [.s 3]⟩ (.op ⟨some 23, some (21, true), .ex (.mov) [.s 0]⟩ (.op ⟨some 24, some (21, true), .ex (.mov) [.s 9]⟩ (.op ⟨some 25, some (21, true), .ex (.ia 6) [.s 23, .s 24]⟩ (.op ⟨some 26, some (21, true), .ex (.lda 6) [.s 25]⟩ (.op ⟨some 27, some (21, true), .ex (.mov) [.s 0]⟩ (.op ⟨some 28, some (21, true), .ex (.mov) [.s 9]⟩ (.op ⟨some 29, some (21, true), .ex (.ibin .sub) [.s 28, .k (.int .i64 1)]⟩ (.op ⟨some 30, some (21, true), .ex (.ia 6) [.s 27, .s 29]⟩ (.op ⟨some 31, some (21, true), .ex (.lda 6) [.s 30]⟩ (.op ⟨some 32, some (21, true), .callv (.s 22) [.s 26, .s 31]⟩ (.op ⟨some 33, some (21, true), .ex (.ibin .lss) [.s 32, .k (.int .i64 0)]⟩ (.op ⟨some 34, none, .ex (.pick) [.s 21, .s 33, .k (.bool false)]⟩ .done))))))))))))))))))
            (.cond (.s 34)
             .skip
             (.exit 2)))
           (.seq
            (.block 3
             (.draw (.op ⟨some 37, none, .ex (.mov) [.s 0]⟩ (.op ⟨some 38, none, .ex (.mov) [.s 9]⟩ (.op ⟨some 39, none, .ex (.mov) [.s 0]⟩ (.op ⟨some 40, none, .ex (.mov) [.s 9]⟩ (.op ⟨some 41, none, .ex (.ibin .sub) [.s 40, .k (.int .i64 1)]⟩ (.op ⟨some 42, none, .ex (.mov) [.s 0]⟩ (.op ⟨some 43, none, .ex (.mov) [.s 9]⟩ (.op ⟨some 44, none, .ex (.ibin .sub) [.s 43, .k (.int .i64 1)]⟩ (.op ⟨some 45, none, .ex (.ia 6) [.s 42, .s 44]⟩ (.op ⟨some 46, none, .ex (.lda 6) [.s 45]⟩ (.op ⟨some 47, none, .ex (.mov) [.s 0]⟩ (.op ⟨some 48, none, .ex (.mov) [.s 9]⟩ (.op ⟨some 49, none, .ex (.ia 6) [.s 47, .s 48]⟩ (.op ⟨some 50, none, .ex (.lda 6) [.s 49]⟩ (.op ⟨some 51, none, .ex (.ia 6) [.s 37, .s 38]⟩ (.op ⟨none, none, .ex (.st 6) [.s 51, .s 46]⟩ (.op ⟨some 52, none, .ex (.ia 6) [.s 39, .s 41]⟩ (.op ⟨none, none, .ex (.st 6) [.s 52, .s 50]⟩ .done))))))))))))))))))))
            (.region [⟨some 35, none, .ex (.mov) [.s 9]⟩,
              ⟨some 36, none, .ex (.ibin .sub) [.s 35, .k (.int .i64 1)]⟩,
              ⟨some 9, none, .ex (.mov) [.s 36]⟩])))))))
      (.region [⟨some 15, none, .ex (.mov) [.s 8]⟩,
        ⟨some 16, none, .ex (.ibin .add) [.s 15, .k (.int .i64 1)]⟩,
        ⟨some 8, none, .ex (.mov) [.s 16]⟩])))))),
 []⟩
theorem c75 : compFn Go.Proofs.Tryd.prog 75 = some fn75 := by kernel_rfl

/-- slices.heapSortCmpFunc[rubric/api.Key] -/
def fn76 : AFn := ⟨60,
 (.seq
  (.region [⟨some 13, none, .ex (.mov) [.s 1]⟩,
    ⟨some 8, none, .ex (.mov) [.s 13]⟩])
  (.seq
   (.region [⟨some 9, none, .ex (.mov) [.k (.int .i64 0)]⟩])
   (.seq
    (.region [⟨some 14, none, .ex (.mov) [.s 2]⟩,
      ⟨some 15, none, .ex (.mov) [.s 1]⟩,
      ⟨some 16, none, .ex (.ibin .sub) [.s 14, .s 15]⟩,
      ⟨some 10, none, .ex (.mov) [.s 16]⟩])
    (.seq
     (.seq
      (.region [⟨some 17, none, .ex (.mov) [.s 10]⟩,
        ⟨some 18, none, .ex (.ibin .sub) [.s 17, .k (.int .i64 1)]⟩,
        ⟨some 19, none, .ex (.ibin .quo) [.s 18, .k (.int .i64 2)]⟩,
        ⟨some 11, none, .ex (.mov) [.s 19]⟩])
      (.block 0
       (.loop
        (.seq
         (.seq
          (.region [⟨some 20, none, .ex (.mov) [.s 11]⟩,
            ⟨some 21, none, .ex (.ibin .geq) [.s 20, .k (.int .i64 0)]⟩])
          (.cond (.s 21)
           .skip
           (.exit 0)))
         (.seq
          (.block 1
           (.region [⟨some 24, none, .ex (.mov) [.s 0]⟩,
             ⟨some 25, none, .ex (.mov) [.s 11]⟩,
             ⟨some 26, none, .ex (.mov) [.s 10]⟩,
             ⟨some 27, none, .ex (.mov) [.s 8]⟩,
             ⟨some 28, none, .ex (.mov) [.s 3]⟩,
             ⟨some 29, none, .callf 98 [.s 24, .s 25, .s 26, .s 27, .s 28]⟩]))
          (.region [⟨some 22, none, .ex (.mov) [.s 11]⟩,
            ⟨some 23, none, .ex (.ibin .sub) [.s 22, .k (.int .i64 1)]⟩,
            ⟨some 11, none, .ex (.mov) [.s 23]⟩]))))))
     (.seq
      (.region [⟨some 30, none, .ex (.mov) [.s 10]⟩,
        ⟨some 31, none, .ex (.ibin .sub) [.s 30, .k (.int .i64 1)]⟩,
        ⟨some 12, none, .ex (.mov) [.s 31]⟩])
      (.block 2
       (.loop
        (.seq
         (.seq
          (.region [⟨some 32, none, .ex (.mov) [.s 12]⟩,
            ⟨some 33, none, .ex (.ibin .geq) [.s 32, .k (.int .i64 0)]⟩])
          (.cond (.s 33)
           .skip
           (.exit 2)))
         (.seq
          (.block 3
           (.seq
            (.draw (.op ⟨some 36, none, .ex (.mov) [.s 0]⟩ (.op ⟨some 37, none, .ex (.mov) [.s 8]⟩ (.op ⟨some 38, none, .ex (.mov) [.s 0]⟩ (.op ⟨some 39, none, .ex (.mov) [.s 8]⟩ (.op ⟨some 40, none, .ex (.mov) [.s 12]⟩ (.op ⟨some 41, none, .ex (.ibin .add) [.s 39, .s 40]⟩ (.op ⟨some 42, none, .ex (.mov) [.s 0]⟩ (.op ⟨some 43, none, .ex (.mov) [.s 8]⟩ (.op ⟨some 44, none, .ex (.mov) [.s 12]⟩ (.op ⟨some 45, none, .ex (.ibin .add) [.s 43, .s 44]⟩ (.op ⟨some 46, none, .ex (.ia 6) [.s 42, .s 45]⟩ (.op ⟨some 47, none, .ex (.lda 6) [.s 46]⟩ (.op ⟨some 48, none, .ex (.mov) [.s 0]⟩ (.op ⟨some 49, none, .ex (.mov) [.s 8]⟩ (.op ⟨some 50, none, .ex (.ia 6) [.s 48, .s 49]⟩ (.op ⟨some 51, none, .ex (.lda 6) [.s 50]⟩ (.op ⟨some 52, none, .ex (.ia 6) [.s 36, .s 37]⟩ (.op ⟨none, none, .ex (.st 6) [.s 52, .s 47]⟩ (.op ⟨some 53, none, .ex (.ia 6) [.s 38, .s 41]⟩ (.op ⟨none, none, .ex (.st 6) [.s 53, .s 51]⟩ .done)))))))))))))))))))))
            (.region [⟨some 54, none, .ex (.mov) [.s 0]⟩,
              ⟨some 55, none, .ex (.mov) [.s 9]⟩,
              ⟨some 56, none, .ex (.mov) [.s 12]⟩,
              ⟨some 57, none, .ex (.mov) [.s 8]⟩,
              ⟨some 58, none, .ex (.mov) [.s 3]⟩,
              ⟨some 59, none, .callf 98 [.s 54, .s 55, .s 56, .s 57, .s 58]⟩])))
          (.region [⟨some 34, none, .ex (.mov) [.s 12]⟩,
            ⟨some 35, none, .ex (.ibin .sub) [.s 34, .k (.int .i64 1)]⟩,
            ⟨some 12, none, .ex (.mov) [.s 35]⟩])))))))))),
 []⟩
theorem c76 : compFn Go.Proofs.Tryd.prog 76 = some fn76 := by kernel_rfl

/-- slices.breakPatternsCmpFunc[rubric/api.Key] -/
def fn77 : AFn := ⟨67,
 (.seq
  (.region [⟨some 13, none, .ex (.mov) [.s 2]⟩,
    ⟨some 14, none, .ex (.mov) [.s 1]⟩,
    ⟨some 15, none, .ex (.ibin .sub) [.s 13, .s 14]⟩,
    ⟨some 8, none, .ex (.mov) [.s 15]⟩])
  (.seq
   (.region [⟨some 16, none, .ex (.mov) [.s 8]⟩,
     ⟨some 17, none, .ex (.ibin .geq) [.s 16, .k (.int .i64 8)]⟩])
   (.cond (.s 17)
    (.seq
     (.region [⟨some 18, none, .ex (.mov) [.s 8]⟩,
       ⟨some 19, none, .ex (.toInt .u64) [.s 18]⟩,
       ⟨some 9, none, .ex (.alloc [(.int .u64 0)]) []⟩,
       ⟨none, none, .ex (.st 1) [.s 9, .s 19]⟩])
     (.seq
      (.region [⟨some 20, none, .ex (.mov) [.s 8]⟩,
        ⟨some 21, none, .callf 99 [.s 20]⟩,
        ⟨some 10, none, .ex (.mov) [.s 21]⟩])
      (.seq
       (.region [⟨some 22, none, .ex (.mov) [.s 1]⟩,
         ⟨some 23, none, .ex (.mov) [.s 8]⟩,
         ⟨some 24, none, .ex (.ibin .quo) [.s 23, .k (.int .i64 4)]⟩,
         ⟨some 25, none, .ex (.ibin .mul) [.s 24, .k (.int .i64 2)]⟩,
         ⟨some 26, none, .ex (.ibin .add) [.s 22, .s 25]⟩,
         ⟨some 27, none, .ex (.ibin .sub) [.s 26, .k (.int .i64 1)]⟩,
         ⟨some 11, none, .ex (.mov) [.s 27]⟩])
       (.block 0
        (.loop
         (.seq
          (.seq
           (.region [⟨some 28, none, .ex (.mov) [.s 11]⟩,
             ⟨some 29, none, .ex (.mov) [.s 1]⟩,
             ⟨some 30, none, .ex (.mov) [.s 8]⟩,
             ⟨some 31, none, .ex (.ibin .quo) [.s 30, .k (.int .i64 4)]⟩,
             ⟨some 32, none, .ex (.ibin .mul) [.s 31, .k (.int .i64 2)]⟩,
             ⟨some 33, none, .ex (.ibin .add) [.s 29, .s 32]⟩,
             ⟨some 34, none, .ex (.ibin .add) [.s 33, .k (.int .i64 1)]⟩,
             ⟨some 35, none, .ex (.ibin .leq) [.s 28, .s 34]⟩])
           (.cond (.s 35)
            .skip
            (.exit 0)))
          (.seq
           (.block 1
            (.seq
             (.region [⟨some 38, none, .callf 100 [.s 9]⟩,
               ⟨some 39, none, .ex (.mov) [.s 10]⟩,
               ⟨some 40, none, .ex (.ibin .sub) [.s 39, .k (.int .u64 1)]⟩,
               ⟨some 41, none, .ex (.ibin .and) [.s 38, .s 40]⟩,
               ⟨some 42, none, .ex (.toInt .i64) [.s 41]⟩,
               ⟨some 12, none, .ex (.mov) [.s 42]⟩])
             (.seq
              (.seq
               (.region [⟨some 43, none, .ex (.mov) [.s 12]⟩,
                 ⟨some 44, none, .ex (.mov) [.s 8]⟩,
                 ⟨some 45, none, .ex (.ibin .geq) [.s 43, .s 44]⟩])
               (.cond (.s 45)
                (.region [⟨some 46, none, .ex (.mov) [.s 12]⟩,
                  ⟨some 47, none, .ex (.mov) [.s 8]⟩,
                  ⟨some 48, none, .ex (.ibin .sub) [.s 46, .s 47]⟩,
                  ⟨some 12, none, .ex (.mov) [.s 48]⟩])
                .skip))
              (.draw (.op ⟨some 49, none, .ex (.mov) [.s 0]⟩ (.op ⟨some 50, none, .ex (.mov) [.s 11]⟩ (.op ⟨some 51, none, .ex (.mov) [.s 0]⟩ (.op ⟨some 52, none, .ex (.mov) [.s 1]⟩ (.op ⟨some 53, none, .ex (.mov) [.s 12]⟩ (.op ⟨some 54, none, .ex (.ibin .add) [.s 52, .s 53]⟩ (.op ⟨some 55, none, .ex (.mov) [.s 0]⟩ (.op ⟨some 56, none, .ex (.mov) [.s 1]⟩ (.op ⟨some 57, none, .ex (.mov) [.s 12]⟩ (.op ⟨some 58, none, .ex (.ibin .add) [.s 56, .s 57]⟩ (.op ⟨some 59, none, .ex (.ia 6) [.s 55, .s 58]⟩ (.op ⟨some 60, none, .ex (.lda 6) [.s 59]⟩ (.op ⟨some 61, none, .ex (.mov) [.s 0]⟩ (.op ⟨some 62, none, .ex (.mov) [.s 11]⟩ (.op ⟨some 63, none, .ex (.ia 6) [.s 61, .s 62]⟩ (.op ⟨some 64, none, .ex (.lda 6) [.s 63]⟩ (.op ⟨some 65, none, .ex (.ia 6) [.s 49, .s 50]⟩ (.op ⟨none, none, .ex (.st 6) [.s 65, .s 60]⟩ (.op ⟨some 66, none, .ex (.ia 6) [.s 51, .s 54]⟩ (.op ⟨none, none, .ex (.st 6) [.s 66, .s 64]⟩ .done))))))))))))))))))))))))
           (.region [⟨some 36, none, .ex (.mov) [.s 11]⟩,
             ⟨some 37, none, .ex (.ibin .add) [.s 36, .k (.int .i64 1)]⟩,
             ⟨some 11, none, .ex (.mov) [.s 37]⟩]))))))))
    .skip))),
 []⟩
theorem c77 : compFn Go.Proofs.Tryd.prog 77 = some fn77 := by kernel_rfl

/-- slices.choosePivotCmpFunc[rubric/api.Key] -/
def fn78 : AFn := ⟨63,
 (.seq
  (.region [⟨some 8, none, .ex (.mov) [.k (.int .i64 0)]⟩,
    ⟨some 9, none, .ex (.mov) [.k (.int .i64 0)]⟩])
  (.seq
   (.region [⟨some 15, none, .ex (.mov) [.s 2]⟩,
     ⟨some 16, none, .ex (.mov) [.s 1]⟩,
     ⟨some 17, none, .ex (.ibin .sub) [.s 15, .s 16]⟩,
     ⟨some 10, none, .ex (.mov) [.s 17]⟩])
   (.seq
    (.region [⟨some 11, none, .ex (.alloc [(.int .i64 0)]) []⟩])
    (.seq
     (.region [⟨some 18, none, .ex (.mov) [.s 1]⟩,
       ⟨some 19, none, .ex (.mov) [.s 10]⟩,
       ⟨some 20, none, .ex (.ibin .quo) [.s 19, .k (.int .i64 4)]⟩,
       ⟨some 21, none, .ex (.ibin .mul) [.s 20, .k (.int .i64 1)]⟩,
       ⟨some 22, none, .ex (.ibin .add) [.s 18, .s 21]⟩,
       ⟨some 12, none, .ex (.mov) [.s 22]⟩])
     (.seq
      (.region [⟨some 23, none, .ex (.mov) [.s 1]⟩,
        ⟨some 24, none, .ex (.mov) [.s 10]⟩,
        ⟨some 25, none, .ex (.ibin .quo) [.s 24, .k (.int .i64 4)]⟩,
        ⟨some 26, none, .ex (.ibin .mul) [.s 25, .k (.int .i64 2)]⟩,
        ⟨some 27, none, .ex (.ibin .add) [.s 23, .s 26]⟩,
        ⟨some 13, none, .ex (.mov) [.s 27]⟩])
      (.seq
       (.region [⟨some 28, none, .ex (.mov) [.s 1]⟩,
         ⟨some 29, none, .ex (.mov) [.s 10]⟩,
         ⟨some 30, none, .ex (.ibin .quo) [.s 29, .k (.int .i64 4)]⟩,
         ⟨some 31, none, .ex (.ibin .mul) [.s 30, .k (.int .i64 3)]⟩,
         ⟨some 32, none, .ex (.ibin .add) [.s 28, .s 31]⟩,
         ⟨some 14, none, .ex (.mov) [.s 32]⟩])
       (.seq
        (.seq
         (.region [⟨some 33, none, .ex (.mov) [.s 10]⟩,
           ⟨some 34, none, .ex (.ibin .geq) [.s 33, .k (.int .i64 8)]⟩])
         (.cond (.s 34)
          (.seq
           (.seq
            (.region [⟨some 35, none, .ex (.mov) [.s 10]⟩,
              ⟨some 36, none, .ex (.ibin .geq) [.s 35, .k (.int .i64 50)]⟩])
            (.cond (.s 36)
             (.seq
              (.region [⟨some 37, none, .ex (.mov) [.s 0]⟩,
                ⟨some 38, none, .ex (.mov) [.s 12]⟩,
                ⟨some 39, none, .ex (.mov) [.s 3]⟩,
                ⟨some 40, none, .callf 101 [.s 37, .s 38, .s 11, .s 39]⟩,
                ⟨some 12, none, .ex (.mov) [.s 40]⟩])
              (.seq
               (.region [⟨some 41, none, .ex (.mov) [.s 0]⟩,
                 ⟨some 42, none, .ex (.mov) [.s 13]⟩,
                 ⟨some 43, none, .ex (.mov) [.s 3]⟩,
                 ⟨some 44, none, .callf 101 [.s 41, .s 42, .s 11, .s 43]⟩,
                 ⟨some 13, none, .ex (.mov) [.s 44]⟩])
               (.region [⟨some 45, none, .ex (.mov) [.s 0]⟩,
                 ⟨some 46, none, .ex (.mov) [.s 14]⟩,
                 ⟨some 47, none, .ex (.mov) [.s 3]⟩,
                 ⟨some 48, none, .callf 101 [.s 45, .s 46, .s 11, .s 47]⟩,
                 ⟨some 14, none, .ex (.mov) [.s 48]⟩])))
             .skip))
           (.region [⟨some 49, none, .ex (.mov) [.s 0]⟩,
             ⟨some 50, none, .ex (.mov) [.s 12]⟩,
             ⟨some 51, none, .ex (.mov) [.s 13]⟩,
             ⟨some 52, none, .ex (.mov) [.s 14]⟩,
             ⟨some 53, none, .ex (.mov) [.s 3]⟩,
             ⟨some 54, none, .callf 102 [.s 49, .s 50, .s 51, .s 52, .s 11, .s 53]⟩,
             ⟨some 13, none, .ex (.mov) [.s 54]⟩]))
          .skip))
        (.seq
         (.region [⟨some 55, none, .ex (.ld 1) [.s 11]⟩])
         (.block 0
          (.seq
           (.region [⟨some 58, none, .ex (.ibin .eql) [.s 55, .k (.int .i64 0)]⟩,
             ⟨some 57, none, .ex (.mov) [.s 58]⟩])
           (.cond (.s 57)
            (.seq
             (.region [⟨some 59, none, .ex (.mov) [.s 13]⟩,
               ⟨some 8, none, .ex (.mov) [.s 59]⟩,
               ⟨some 9, none, .ex (.mov) [.k (.int .i64 1)]⟩])
             .ret)
            (.seq
             (.region [⟨some 61, none, .ex (.ibin .eql) [.s 55, .k (.int .i64 12)]⟩,
               ⟨some 60, none, .ex (.mov) [.s 61]⟩])
             (.cond (.s 60)
              (.seq
               (.region [⟨some 62, none, .ex (.mov) [.s 13]⟩,
                 ⟨some 8, none, .ex (.mov) [.s 62]⟩,
                 ⟨some 9, none, .ex (.mov) [.k (.int .i64 2)]⟩])
               .ret)
              (.seq
               (.region [⟨some 56, none, .ex (.mov) [.s 13]⟩,
                 ⟨some 8, none, .ex (.mov) [.s 56]⟩,
                 ⟨some 9, none, .ex (.mov) [.k (.int .i64 0)]⟩])
               .ret)))))))))))))),
 [.t 8, .t 9]⟩
theorem c78 : compFn Go.Proofs.Tryd.prog 78 = some fn78 := by kernel_rfl

/-- slices.reverseRangeCmpFunc[rubric/api.Key] -/
def fn79 : AFn := ⟨34,
 (.seq
  (.region [⟨some 10, none, .ex (.mov) [.s 1]⟩,
    ⟨some 8, none, .ex (.mov) [.s 10]⟩])
  (.seq
   (.region [⟨some 11, none, .ex (.mov) [.s 2]⟩,
     ⟨some 12, none, .ex (.ibin .sub) [.s 11, .k (.int .i64 1)]⟩,
     ⟨some 9, none, .ex (.mov) [.s 12]⟩])
   (.block 0
    (.loop
     (.seq
      (.seq
       (.region [⟨some 13, none, .ex (.mov) [.s 8]⟩,
         ⟨some 14, none, .ex (.mov) [.s 9]⟩,
         ⟨some 15, none, .ex (.ibin .lss) [.s 13, .s 14]⟩])
       (.cond (.s 15)
        .skip
        (.exit 0)))
      (.block 1
       (.seq
        (.draw (.op ⟨some 16, none, .ex (.mov) [.s 0]⟩ (.op ⟨some 17, none, .ex (.mov) [.s 8]⟩ (.op ⟨some 18, none, .ex (.mov) [.s 0]⟩ (.op ⟨some 19, none, .ex (.mov) [.s 9]⟩ (.op ⟨some 20, none, .ex (.mov) [.s 0]⟩ (.op ⟨some 21, none, .ex (.mov) [.s 9]⟩ (.op ⟨some 22, none, .ex (.ia 6) [.s 20, .s 21]⟩ (.op ⟨some 23, none, .ex (.lda 6) [.s 22]⟩ (.op ⟨some 24, none, .ex (.mov) [.s 0]⟩ (.op ⟨some 25, none, .ex (.mov) [.s 8]⟩ (.op ⟨some 26, none, .ex (.ia 6) [.s 24, .s 25]⟩ (.op ⟨some 27, none, .ex (.lda 6) [.s 26]⟩ (.op ⟨some 28, none, .ex (.ia 6) [.s 16, .s 17]⟩ (.op ⟨none, none, .ex (.st 6) [.s 28, .s 23]⟩ (.op ⟨some 29, none, .ex (.ia 6) [.s 18, .s 19]⟩ (.op ⟨none, none, .ex (.st 6) [.s 29, .s 27]⟩ .done)))))))))))))))))
        (.seq
         (.region [⟨some 30, none, .ex (.mov) [.s 8]⟩,
           ⟨some 31, none, .ex (.ibin .add) [.s 30, .k (.int .i64 1)]⟩,
           ⟨some 8, none, .ex (.mov) [.s 31]⟩])
         (.region [⟨some 32, none, .ex (.mov) [.s 9]⟩,
           ⟨some 33, none, .ex (.ibin .sub) [.s 32, .k (.int .i64 1)]⟩,
           ⟨some 9, none, .ex (.mov) [.s 33]⟩]))))))))),
 []⟩
theorem c79 : compFn Go.Proofs.Tryd.prog 79 = some fn79 := by kernel_rfl

/-- slices.partialInsertionSortCmpFunc[rubric/api.Key] -/
def fn80 : AFn := ⟨141,
 (.seq
  (.region [⟨some 8, none, .ex (.mov) [.k (.bool false)]⟩])
  (.seq
   (.region [⟨some 13, none, .ex (.mov) [.s 1]⟩,
     ⟨some 14, none, .ex (.ibin .add) [.s 13, .k (.int .i64 1)]⟩,
     ⟨some 9, none, .ex (.mov) [.s 14]⟩])
   (.seq
    (.seq
     (.region [⟨some 10, none, .ex (.mov) [.k (.int .i64 0)]⟩])
     (.block 0
      (.loop
       (.seq
        (.seq
         (.region [⟨some 15, none, .ex (.mov) [.s 10]⟩,
           ⟨some 16, none, .ex (.ibin .lss) [.s 15, .k (.int .i64 5)]⟩])
         (.cond (.s 16)
          .skip
          (.exit 0)))
        (.seq
         (.block 1
          (.seq
           (.block 2
            (.loop
             (.seq
              (.seq
               (.draw (.op ⟨some 19, none, .ex (.mov) [.s 9]⟩ (.op ⟨some 20, none, .ex (.mov) [.s 2]⟩ (.op ⟨some 21, none, .ex (.ibin .lss) [.s 19, .s 20]⟩ (.op ⟨some 22, none, .ex (.mov) [.s 21]⟩ (.op ⟨some 23, some (22, true), .ex (.mov) [.s 3]⟩ (.op ⟨some 24, some (22, true), .ex (.mov) [.s 0]⟩ (.op ⟨some 25, some (22, true), .ex (.mov) [.s 9]⟩ (.op ⟨some 26, some (22, true), .ex (.ia 6) [.s 24, .s 25]⟩ (.op ⟨some 27, some (22, true), .ex (.lda 6) [.s 26]⟩ (.op ⟨some 28, some (22, true), .ex (.mov) [.s 0]⟩ (.op ⟨some 29, some (22, true), .ex (.mov) [.s 9]⟩ (.op ⟨some 30, some (22, true), .ex (.ibin .sub) [.s 29, .k (.int .i64 1)]⟩ (.op ⟨some 31, some (22, true), .ex (.ia 6) [.s 28, .s 30]⟩ (.op ⟨some 32, some (22, true), .ex (.lda 6) [.s 31]⟩ (.op ⟨some 33, some (22, true), .callv (.s 23) [.s 27, .s 32]⟩ (.op ⟨some 34, some (22, true), .ex (.ibin .lss) [.s 33, .k (.int .i64 0)]⟩ (.op ⟨some 35, some (22, true), .ex (.bnot) [.s 34]⟩ (.op ⟨some 36, none, .ex (.pick) [.s 22, .s 35, .k (.bool false)]⟩ .done)))))))))))))))))))
               (.cond (.s 36)
                .skip
                (.exit 2)))
              (.block 3
               (.region [⟨some 37, none, .ex (.mov) [.s 9]⟩,
                 ⟨some 38, none, .ex (.ibin .add) [.s 37, .k (.int .i64 1)]⟩,
                 ⟨some 9, none, .ex (.mov) [.s 38]⟩])))))
           (.seq
            (.seq
             (.region [⟨some 39, none, .ex (.mov) [.s 9]⟩,
               ⟨some 40, none, .ex (.mov) [.s 2]⟩,
               ⟨some 41, none, .ex (.ibin .eql) [.s 39, .s 40]⟩])
             (.cond (.s 41)
              (.seq
               (.region [⟨some 8, none, .ex (.mov) [.k (.bool true)]⟩])
               .ret)
              .skip))
            (.seq
             (.seq
              (.region [⟨some 42, none, .ex (.mov) [.s 2]⟩,
                ⟨some 43, none, .ex (.mov) [.s 1]⟩,
                ⟨some 44, none, .ex (.ibin .sub) [.s 42, .s 43]⟩,
                ⟨some 45, none, .ex (.ibin .lss) [.s 44, .k (.int .i64 50)]⟩])
              (.cond (.s 45)
               (.seq
                (.region [⟨some 8, none, .ex (.mov) [.k (.bool false)]⟩])
                .ret)
               .skip))
             (.seq
              (.draw (.op ⟨some 46, none, .ex (.mov) [.s 0]⟩ (.op ⟨some 47, none, .ex (.mov) [.s 9]⟩ (.op ⟨some 48, none, .ex (.mov) [.s 0]⟩ (.op ⟨some 49, none, .ex (.mov) [.s 9]⟩ (.op ⟨some 50, none, .ex (.ibin .sub) [.s 49, .k (.int .i64 1)]⟩ (.op ⟨some 51, none, .ex (.mov) [.s 0]⟩ (.op ⟨some 52, none, .ex (.mov) [.s 9]⟩ (.op ⟨some 53, none, .ex (.ibin .sub) [.s 52, .k (.int .i64 1)]⟩ (.op ⟨some 54, none, .ex (.ia 6) [.s 51, .s 53]⟩ (.op ⟨some 55, none, .ex (.lda 6) [.s 54]⟩ (.op ⟨some 56, none, .ex (.mov) [.s 0]⟩ (.op ⟨some 57, none, .ex (.mov) [.s 9]⟩ (.op ⟨some 58, none, .ex (.ia 6) [.s 56, .s 57]⟩ (.op ⟨some 59, none, .ex (.lda 6) [.s 58]⟩ (.op ⟨some 60, none, .ex (.ia 6) [.s 46, .s 47]⟩ (.op ⟨none, none, .ex (.st 6) [.s 60, .s 55]⟩ (.op ⟨some 61, none, .ex (.ia 6) [.s 48, .s 50]⟩ (.op ⟨none, none, .ex (.st 6) [.s 61, .s 59]⟩ .done)))))))))))))))))))
              (.seq
               (.seq
                (.region [⟨some 62, none, .ex (.mov) [.s 9]⟩,
                  ⟨some 63, none, .ex (.mov) [.s 1]⟩,
                  ⟨some 64, none, .ex (.ibin .sub) [.s 62, .s 63]⟩,
                  ⟨some 65, none, .ex (.ibin .geq) [.s 64, .k (.int .i64 2)]⟩])
                (.cond (.s 65)
                 (.seq
                  (.region [⟨some 66, none, .ex (.mov) [.s 9]⟩,
                    ⟨some 67, none, .ex (.ibin .sub) [.s 66, .k (.int .i64 1)]⟩,
                    ⟨some 11, none, .ex (.mov) [.s 67]⟩])
                  (.block 4
                   (.loop
                    (.seq
                     (.seq
                      (.region [⟨some 68, none, .ex (.mov) [.s 11]⟩,
                        ⟨some 69, none, .ex (.ibin .geq) [.s 68, .k (.int .i64 1)]⟩])
                      (.cond (.s 69)
                       .skip
                       (.exit 4)))
                     (.seq
                      (.block 5
                       (.seq
                        (.seq
                         (.draw (.op ⟨some 72, none, .ex (.mov) [.s 3]⟩ (.op ⟨some 73, none, .ex (.mov) [.s 0]⟩ (.op ⟨some 74, none, .ex (.mov) [.s 11]⟩ (.op ⟨some 75, none, .ex (.ia 6) [.s 73, .s 74]⟩ (.op ⟨some 76, none, .ex (.lda 6) [.s 75]⟩ (.op ⟨some 77, none, .ex (.mov) [.s 0]⟩ (.op ⟨some 78, none, .ex (.mov) [.s 11]⟩ (.op ⟨some 79, none, .ex (.ibin .sub) [.s 78, .k (.int .i64 1)]⟩ (.op ⟨some 80, none, .ex (.ia 6) [.s 77, .s 79]⟩ (.op ⟨some 81, none, .ex (.lda 6) [.s 80]⟩ (.op ⟨some 82, none, .callv (.s 72) [.s 76, .s 81]⟩ (.op ⟨some 83, none, .ex (.ibin .lss) [.s 82, .k (.int .i64 0)]⟩ (.op ⟨some 84, none, .ex (.bnot) [.s 83]⟩ .done))))))))))))))
                         (.cond (.s 84)
                          (.exit 4)
                          .skip))
                        (.draw (.op ⟨some 85, none, .ex (.mov) [.s 0]⟩ (.op ⟨some 86, none, .ex (.mov) [.s 11]⟩ (.op ⟨some 87, none, .ex (.mov) [.s 0]⟩ (.op ⟨some 88, none, .ex (.mov) [.s 11]⟩ (.op ⟨some 89, none, .ex (.ibin .sub) [.s 88, .k (.int .i64 1)]⟩ (.op ⟨some 90, none, .ex (.mov) [.s 0]⟩ (.op ⟨some 91, none, .ex (.mov) [.s 11]⟩ (.op ⟨some 92, none, .ex (.ibin .sub) [.s 91, .k (.int .i64 1)]⟩ (.op ⟨some 93, none, .ex (.ia 6) [.s 90, .s 92]⟩ (.op ⟨some 94, none, .ex (.lda 6) [.s 93]⟩ (.op ⟨some 95, none, .ex (.mov) [.s 0]⟩ (.op ⟨some 96, none, .ex (.mov) [.s 11]⟩ (.op ⟨some 97, none, .ex (.ia 6) [.s 95, .s 96]⟩ (.op ⟨some 98, none, .ex (.lda 6) [.s 97]⟩ (.op ⟨some 99, none, .ex (.ia 6) [.s 85, .s 86]⟩ (.op ⟨none, none, .ex (.st 6) [.s 99, .s 94]⟩ (.op ⟨some 100, none, .ex (.ia 6) [.s 87, .s 89]⟩ (.op ⟨none, none, .ex (.st 6) [.s 100, .s 98]⟩ .done)))))))))))))))))))))
                      (.region [⟨some 70, none, .ex (.mov) [.s 11]⟩,
                        ⟨some 71, none, .ex (.ibin .sub) [.s 70, .k (.int .i64 1)]⟩,
                        ⟨some 11, none, .ex (.mov) [.s 71]⟩]))))))
                 .skip))
               (.seq
                (.region [⟨some 101, none, .ex (.mov) [.s 2]⟩,
                  ⟨some 102, none, .ex (.mov) [.s 9]⟩,
                  ⟨some 103, none, .ex (.ibin .sub) [.s 101, .s 102]⟩,
                  ⟨some 104, none, .ex (.ibin .geq) [.s 103, .k (.int .i64 2)]⟩])
                (.cond (.s 104)
                 (.seq
                  (.region [⟨some 105, none, .ex (.mov) [.s 9]⟩,
                    ⟨some 106, none, .ex (.ibin .add) [.s 105, .k (.int .i64 1)]⟩,
                    ⟨some 12, none, .ex (.mov) [.s 106]⟩])
                  (.block 6
                   (.loop
                    (.seq
                     (.seq
                      (.region [⟨some 107, none, .ex (.mov) [.s 12]⟩,
                        ⟨some 108, none, .ex (.mov) [.s 2]⟩,
                        ⟨some 109, none, .ex (.ibin .lss) [.s 107, .s 108]⟩])
                      (.cond (.s 109)
                       .skip
                       (.exit 6)))
                     (.seq
                      (.block 7
                       (.seq
                        (.seq
                         (.draw (.op ⟨some 112, none, .ex (.mov) [.s 3]⟩ (.op ⟨some 113, none, .ex (.mov) [.s 0]⟩ (.op ⟨some 114, none, .ex (.mov) [.s 12]⟩ (.op ⟨some 115, none, .ex (.ia 6) [.s 113, .s 114]⟩ (.op ⟨some 116, none, .ex (.lda 6) [.s 115]⟩ (.op ⟨some 117, none, .ex (.mov) [.s 0]⟩ (.op ⟨some 118, none, .ex (.mov) [.s 12]⟩ (.op ⟨some 119, none, .ex (.ibin .sub) [.s 118, .k (.int .i64 1)]⟩ (.op ⟨some 120, none, .ex (.ia 6) [.s 117, .s 119]⟩ (.op ⟨some 121, none, .ex (.lda 6) [.s 120]⟩ (.op ⟨some 122, none, .callv (.s 112) [.s 116, .s 121]⟩ (.op ⟨some 123, none, .ex (.ibin .lss) [.s 122, .k (.int .i64 0)]⟩ (.op ⟨some 124, none, .ex (.bnot) [.s 123]⟩ .done))))))))))))))
                         (.cond (.s 124)
                          (.exit 6)
                          .skip))
                        (.draw (.op ⟨some 125, none, .ex (.mov) [.s 0]⟩ (.op ⟨some 126, none, .ex (.mov) [.s 12]⟩ (.op ⟨some 127, none, .ex (.mov) [.s 0]⟩ (.op ⟨some 128, none, .ex (.mov) [.s 12]⟩ (.op ⟨some 129, none, .ex (.ibin .sub) [.s 128, .k (.int .i64 1)]⟩ (.op ⟨some 130, none, .ex (.mov) [.s 0]⟩ (.op ⟨some 131, none, .ex (.mov) [.s 12]⟩ (.op ⟨some 132, none, .ex (.ibin .sub) [.s 131, .k (.int .i64 1)]⟩ (.op ⟨some 133, none, .ex (.ia 6) [.s 130, .s 132]⟩ (.op ⟨some 134, none, .ex (.lda 6) [.s 133]⟩ (.op ⟨some 135, none, .ex (.mov) [.s 0]⟩ (.op ⟨some 136, none, .ex (.mov) [.s 12]⟩ (.op ⟨some 137, none, .ex (.ia 6) [.s 135, .s 136]⟩ (.op ⟨some 138, none, .ex (.lda 6) [.s 137]⟩ (.op ⟨some 139, none, .ex (.ia 6) [.s 125, .s 126]⟩ (.op ⟨none, none, .ex (.st 6) [.s 139, .s 134]⟩ (.op ⟨some 140, none, .ex (.ia 6) [.s 127, .s 129]⟩ (.op ⟨none, none, .ex (.st 6) [.s 140, .s 138]⟩ .done)))))))))))))))))))))
                      (.region [⟨some 110, none, .ex (.mov) [.s 12]⟩,
                        ⟨some 111, none, .ex (.ibin .add) [.s 110, .k (.int .i64 1)]⟩,
                        ⟨some 12, none, .ex (.mov) [.s 111]⟩]))))))
                 .skip))))))))
         (.region [⟨some 17, none, .ex (.mov) [.s 10]⟩,
           ⟨some 18, none, .ex (.ibin .add) [.s 17, .k (.int .i64 1)]⟩,
           ⟨some 10, none, .ex (.mov) [.s 18]⟩]))))))
    (.seq
     (.region [⟨some 8, none, .ex (.mov) [.k (.bool false)]⟩])
     .ret)))),
 [.t 8]⟩
theorem c80 : compFn Go.Proofs.Tryd.prog 80 = some fn80 := by kernel_rfl

/-- slices.partitionEqualCmpFunc[rubric/api.Key] -/
def fn81 : AFn := ⟨90,
 (.seq
  (.region [⟨some 10, none, .ex (.mov) [.k (.int .i64 0)]⟩])
  (.seq
   (.draw (.op ⟨some 13, none, .ex (.mov) [.s 0]⟩ (.op ⟨some 14, none, .ex (.mov) [.s 1]⟩ (.op ⟨some 15, none, .ex (.mov) [.s 0]⟩ (.op ⟨some 16, none, .ex (.mov) [.s 3]⟩ (.op ⟨some 17, none, .ex (.mov) [.s 0]⟩ (.op ⟨some 18, none, .ex (.mov) [.s 3]⟩ (.op ⟨some 19, none, .ex (.ia 6) [.s 17, .s 18]⟩ (.op ⟨some 20, none, .ex (.lda 6) [.s 19]⟩ (.op ⟨some 21, none, .ex (.mov) [.s 0]⟩ (.op ⟨some 22, none, .ex (.mov) [.s 1]⟩ (.op ⟨some 23, none, .ex (.ia 6) [.s 21, .s 22]⟩ (.op ⟨some 24, none, .ex (.lda 6) [.s 23]⟩ (.op ⟨some 25, none, .ex (.ia 6) [.s 13, .s 14]⟩ (.op ⟨none, none, .ex (.st 6) [.s 25, .s 20]⟩ (.op ⟨some 26, none, .ex (.ia 6) [.s 15, .s 16]⟩ (.op ⟨none, none, .ex (.st 6) [.s 26, .s 24]⟩ .done)))))))))))))))))
   (.seq
    (.region [⟨some 27, none, .ex (.mov) [.s 1]⟩,
      ⟨some 28, none, .ex (.ibin .add) [.s 27, .k (.int .i64 1)]⟩,
      ⟨some 29, none, .ex (.mov) [.s 2]⟩,
      ⟨some 30, none, .ex (.ibin .sub) [.s 29, .k (.int .i64 1)]⟩,
      ⟨some 11, none, .ex (.mov) [.s 28]⟩,
      ⟨some 12, none, .ex (.mov) [.s 30]⟩])
    (.seq
     (.block 0
      (.loop
       (.block 1
        (.seq
         (.block 2
          (.loop
           (.seq
            (.seq
             (.draw (.op ⟨some 31, none, .ex (.mov) [.s 11]⟩ (.op ⟨some 32, none, .ex (.mov) [.s 12]⟩ (.op ⟨some 33, none, .ex (.ibin .leq) [.s 31, .s 32]⟩ (.op ⟨some 34, none, .ex (.mov) [.s 33]⟩ (.op ⟨some 35, some (34, true), .ex (.mov) [.s 4]⟩ (.op ⟨some 36, some (34, true), .ex (.mov) [.s 0]⟩ (.op ⟨some 37, some (34, true), .ex (.mov) [.s 1]⟩ (.op ⟨some 38, some (34, true), .ex (.ia 6) [.s 36, .s 37]⟩ (.op ⟨some 39, some (34, true), .ex (.lda 6) [.s 38]⟩ (.op ⟨some 40, some (34, true), .ex (.mov) [.s 0]⟩ (.op ⟨some 41, some (34, true), .ex (.mov) [.s 11]⟩ (.op ⟨some 42, some (34, true), .ex (.ia 6) [.s 40, .s 41]⟩ (.op ⟨some 43, some (34, true), .ex (.lda 6) [.s 42]⟩ (.op ⟨some 44, some (34, true), .callv (.s 35) [.s 39, .s 43]⟩ (.op ⟨some 45, some (34, true), .ex (.ibin .lss) [.s 44, .k (.int .i64 0)]⟩ (.op ⟨some 46, some (34, true), .ex (.bnot) [.s 45]⟩ (.op ⟨some 47, none, .ex (.pick) [.s 34, .s 46, .k (.bool false)]⟩ .done))))))))))))))))))
             (.cond (.s 47)
              .skip
              (.exit 2)))
            (.block 3
             (.region [⟨some 48, none, .ex (.mov) [.s 11]⟩,
               ⟨some 49, none, .ex (.ibin .add) [.s 48, .k (.int .i64 1)]⟩,
               ⟨some 11, none, .ex (.mov) [.s 49]⟩])))))
         (.seq
          (.block 4
           (.loop
            (.seq
             (.seq
              (.draw (.op ⟨some 50, none, .ex (.mov) [.s 11]⟩ (.op ⟨some 51, none, .ex (.mov) [.s 12]⟩ (.op ⟨some 52, none, .ex (.ibin .leq) [.s 50, .s 51]⟩ (.op ⟨some 53, none, .ex (.mov) [.s 52]⟩ (.op ⟨some 54, some (53, true), .ex (.mov) [.s 4]⟩ (.op ⟨some 55, some (53, true), .ex (.mov) [.s 0]⟩ (.op ⟨some 56, some (53, true), .ex (.mov) [.s 1]⟩ (.op ⟨some 57, some (53, true), .ex (.ia 6) [.s 55, .s 56]⟩ (.op ⟨some 58, some (53, true), .ex (.lda 6) [.s 57]⟩ (.op ⟨some 59, some (53, true), .ex (.mov) [.s 0]⟩ (.op ⟨some 60, some (53, true), .ex (.mov) [.s 12]⟩ (.op ⟨some 61, some (53, true), .ex (.ia 6) [.s 59, .s 60]⟩ (.op ⟨some 62, some (53, true), .ex (.lda 6) [.s 61]⟩ (.op ⟨some 63, some (53, true), .callv (.s 54) [.s 58, .s 62]⟩ (.op ⟨some 64, some (53, true), .ex (.ibin .lss) [.s 63, .k (.int .i64 0)]⟩ (.op ⟨some 65, none, .ex (.pick) [.s 53, .s 64, .k (.bool false)]⟩ .done)))))))))))))))))
              (.cond (.s 65)
               .skip
               (.exit 4)))
             (.block 5
              (.region [⟨some 66, none, .ex (.mov) [.s 12]⟩,
                ⟨some 67, none, .ex (.ibin .sub) [.s 66, .k (.int .i64 1)]⟩,
                ⟨some 12, none, .ex (.mov) [.s 67]⟩])))))
          (.seq
           (.seq
            (.region [⟨some 68, none, .ex (.mov) [.s 11]⟩,
              ⟨some 69, none, .ex (.mov) [.s 12]⟩,
              ⟨some 70, none, .ex (.ibin .gtr) [.s 68, .s 69]⟩])
            (.cond (.s 70)
             (.exit 0)
             .skip))
           (.seq
            (.draw (.op ⟨some 71, none, .ex (.mov) [.s 0]⟩ (.op ⟨some 72, none, .ex (.mov) [.s 11]⟩ (.op ⟨some 73, none, .ex (.mov) [.s 0]⟩ (.op ⟨some 74, none, .ex (.mov) [.s 12]⟩ (.op ⟨some 75, none, .ex (.mov) [.s 0]⟩ (.op ⟨some 76, none, .ex (.mov) [.s 12]⟩ (.op ⟨some 77, none, .ex (.ia 6) [.s 75, .s 76]⟩ (.op ⟨some 78, none, .ex (.lda 6) [.s 77]⟩ (.op ⟨some 79, none, .ex (.mov) [.s 0]⟩ (.op ⟨some 80, none, .ex (.mov) [.s 11]⟩ (.op ⟨some 81, none, .ex (.ia 6) [.s 79, .s 80]⟩ (.op ⟨some 82, none, .ex (.lda 6) [.s 81]⟩ (.op ⟨some 83, none, .ex (.ia 6) [.s 71, .s 72]⟩ (.op ⟨none, none, .ex (.st 6) [.s 83, .s 78]⟩ (.op ⟨some 84, none, .ex (.ia 6) [.s 73, .s 74]⟩ (.op ⟨none, none, .ex (.st 6) [.s 84, .s 82]⟩ .done)))))))))))))))))
            (.seq
             (.region [⟨some 85, none, .ex (.mov) [.s 11]⟩,
               ⟨some 86, none, .ex (.ibin .add) [.s 85, .k (.int .i64 1)]⟩,
               ⟨some 11, none, .ex (.mov) [.s 86]⟩])
             (.region [⟨some 87, none, .ex (.mov) [.s 12]⟩,
               ⟨some 88, none, .ex (.ibin .sub) [.s 87, .k (.int .i64 1)]⟩,
               ⟨some 12, none, .ex (.mov) [.s 88]⟩])))))))))
     (.seq
      (.region [⟨some 89, none, .ex (.mov) [.s 11]⟩,
        ⟨some 10, none, .ex (.mov) [.s 89]⟩])
      .ret))))),
 [.t 10]⟩
theorem c81 : compFn Go.Proofs.Tryd.prog 81 = some fn81 := by kernel_rfl

/-- slices.partitionCmpFunc[rubric/api.Key] -/
def fn82 : AFn := ⟨178,
 (.seq
  (.region [⟨some 10, none, .ex (.mov) [.k (.int .i64 0)]⟩,
    ⟨some 11, none, .ex (.mov) [.k (.bool false)]⟩])
  (.seq
   (.draw (.op ⟨some 14, none, .ex (.mov) [.s 0]⟩ (.op ⟨some 15, none, .ex (.mov) [.s 1]⟩ (.op ⟨some 16, none, .ex (.mov) [.s 0]⟩ (.op ⟨some 17, none, .ex (.mov) [.s 3]⟩ (.op ⟨some 18, none, .ex (.mov) [.s 0]⟩ (.op ⟨some 19, none, .ex (.mov) [.s 3]⟩ (.op ⟨some 20, none, .ex (.ia 6) [.s 18, .s 19]⟩ (.op ⟨some 21, none, .ex (.lda 6) [.s 20]⟩ (.op ⟨some 22, none, .ex (.mov) [.s 0]⟩ (.op ⟨some 23, none, .ex (.mov) [.s 1]⟩ (.op ⟨some 24, none, .ex (.ia 6) [.s 22, .s 23]⟩ (.op ⟨some 25, none, .ex (.lda 6) [.s 24]⟩ (.op ⟨some 26, none, .ex (.ia 6) [.s 14, .s 15]⟩ (.op ⟨none, none, .ex (.st 6) [.s 26, .s 21]⟩ (.op ⟨some 27, none, .ex (.ia 6) [.s 16, .s 17]⟩ (.op ⟨none, none, .ex (.st 6) [.s 27, .s 25]⟩ .done)))))))))))))))))
   (.seq
    (.region [⟨some 28, none, .ex (.mov) [.s 1]⟩,
      ⟨some 29, none, .ex (.ibin .add) [.s 28, .k (.int .i64 1)]⟩,
      ⟨some 30, none, .ex (.mov) [.s 2]⟩,
      ⟨some 31, none, .ex (.ibin .sub) [.s 30, .k (.int .i64 1)]⟩,
      ⟨some 12, none, .ex (.mov) [.s 29]⟩,
      ⟨some 13, none, .ex (.mov) [.s 31]⟩])
    (.seq
     (.block 0
      (.loop
       (.seq
        (.seq
         (.draw (.op ⟨some 32, none, .ex (.mov) [.s 12]⟩ (.op ⟨some 33, none, .ex (.mov) [.s 13]⟩ (.op ⟨some 34, none, .ex (.ibin .leq) [.s 32, .s 33]⟩ (.op ⟨some 35, none, .ex (.mov) [.s 34]⟩ (.op ⟨some 36, some (35, true), .ex (.mov) [.s 4]⟩ (.op ⟨some 37, some (35, true), .ex (.mov) [.s 0]⟩ (.op ⟨some 38, some (35, true), .ex (.mov) [.s 12]⟩ (.op ⟨some 39, some (35, true), .ex (.ia 6) [.s 37, .s 38]⟩ (.op ⟨some 40, some (35, true), .ex (.lda 6) [.s 39]⟩ (.op ⟨some 41, some (35, true), .ex (.mov) [.s 0]⟩ (.op ⟨some 42, some (35, true), .ex (.mov) [.s 1]⟩ (.op ⟨some 43, some (35, true), .ex (.ia 6) [.s 41, .s 42]⟩ (.op ⟨some 44, some (35, true), .ex (.lda 6) [.s 43]⟩ (.op ⟨some 45, some (35, true), .callv (.s 36) [.s 40, .s 44]⟩ (.op ⟨some 46, some (35, true), .ex (.ibin .lss) [.s 45, .k (.int .i64 0)]⟩ (.op ⟨some 47, none, .ex (.pick) [.s 35, .s 46, .k (.bool false)]⟩ .done)))))))))))))))))
         (.cond (.s 47)
          .skip
          (.exit 0)))
        (.block 1
         (.region [⟨some 48, none, .ex (.mov) [.s 12]⟩,
           ⟨some 49, none, .ex (.ibin .add) [.s 48, .k (.int .i64 1)]⟩,
           ⟨some 12, none, .ex (.mov) [.s 49]⟩])))))
     (.seq
      (.block 2
       (.loop
        (.seq
         (.seq
          (.draw (.op ⟨some 50, none, .ex (.mov) [.s 12]⟩ (.op ⟨some 51, none, .ex (.mov) [.s 13]⟩ (.op ⟨some 52, none, .ex (.ibin .leq) [.s 50, .s 51]⟩ (.op ⟨some 53, none, .ex (.mov) [.s 52]⟩ (.op ⟨some 54, some (53, true), .ex (.mov) [.s 4]⟩ (.op ⟨some 55, some (53, true), .ex (.mov) [.s 0]⟩ (.op ⟨some 56, some (53, true), .ex (.mov) [.s 13]⟩ (.op ⟨some 57, some (53, true), .ex (.ia 6) [.s 55, .s 56]⟩ (.op ⟨some 58, some (53, true), .ex (.lda 6) [.s 57]⟩ (.op ⟨some 59, some (53, true), .ex (.mov) [.s 0]⟩ (.op ⟨some 60, some (53, true), .ex (.mov) [.s 1]⟩ (.op ⟨some 61, some (53, true), .ex (.ia 6) [.s 59, .s 60]⟩ (.op ⟨some 62, some (53, true), .ex (.lda 6) [.s 61]⟩ (.op ⟨some 63, some (53, true), .callv (.s 54) [.s 58, .s 62]⟩ (.op ⟨some 64, some (53, true), .ex (.ibin .lss) [.s 63, .k (.int .i64 0)]⟩ (.op ⟨some 65, some (53, true), .ex (.bnot) [.s 64]⟩ (.op ⟨some 66, none, .ex (.pick) [.s 53, .s 65, .k (.bool false)]⟩ .done))))))))))))))))))
          (.cond (.s 66)
           .skip
           (.exit 2)))
         (.block 3
          (.region [⟨some 67, none, .ex (.mov) [.s 13]⟩,
            ⟨some 68, none, .ex (.ibin .sub) [.s 67, .k (.int .i64 1)]⟩,
            ⟨some 13, none, .ex (.mov) [.s 68]⟩])))))
      (.seq
       (.seq
        (.region [⟨some 69, none, .ex (.mov) [.s 12]⟩,
          ⟨some 70, none, .ex (.mov) [.s 13]⟩,
          ⟨some 71, none, .ex (.ibin .gtr) [.s 69, .s 70]⟩])
        (.cond (.s 71)
         (.seq
          (.draw (.op ⟨some 72, none, .ex (.mov) [.s 0]⟩ (.op ⟨some 73, none, .ex (.mov) [.s 13]⟩ (.op ⟨some 74, none, .ex (.mov) [.s 0]⟩ (.op ⟨some 75, none, .ex (.mov) [.s 1]⟩ (.op ⟨some 76, none, .ex (.mov) [.s 0]⟩ (.op ⟨some 77, none, .ex (.mov) [.s 1]⟩ (.op ⟨some 78, none, .ex (.ia 6) [.s 76, .s 77]⟩ (.op ⟨some 79, none, .ex (.lda 6) [.s 78]⟩ (.op ⟨some 80, none, .ex (.mov) [.s 0]⟩ (.op ⟨some 81, none, .ex (.mov) [.s 13]⟩ (.op ⟨some 82, none, .ex (.ia 6) [.s 80, .s 81]⟩ (.op ⟨some 83, none, .ex (.lda 6) [.s 82]⟩ (.op ⟨some 84, none, .ex (.ia 6) [.s 72, .s 73]⟩ (.op ⟨none, none, .ex (.st 6) [.s 84, .s 79]⟩ (.op ⟨some 85, none, .ex (.ia 6) [.s 74, .s 75]⟩ (.op ⟨none, none, .ex (.st 6) [.s 85, .s 83]⟩ .done)))))))))))))))))
          (.seq
           (.region [⟨some 86, none, .ex (.mov) [.s 13]⟩,
             ⟨some 10, none, .ex (.mov) [.s 86]⟩,
             ⟨some 11, none, .ex (.mov) [.k (.bool true)]⟩])
           .ret))
         .skip))
       (.seq
        (.draw (.op ⟨some 87, none, .ex (.mov) [.s 0]⟩ (.op ⟨some 88, none, .ex (.mov) [.s 12]⟩ (.op ⟨some 89, none, .ex (.mov) [.s 0]⟩ (.op ⟨some 90, none, .ex (.mov) [.s 13]⟩ (.op ⟨some 91, none, .ex (.mov) [.s 0]⟩ (.op ⟨some 92, none, .ex (.mov) [.s 13]⟩ (.op ⟨some 93, none, .ex (.ia 6) [.s 91, .s 92]⟩ (.op ⟨some 94, none, .ex (.lda 6) [.s 93]⟩ (.op ⟨some 95, none, .ex (.mov) [.s 0]⟩ (.op ⟨some 96, none, .ex (.mov) [.s 12]⟩ (.op ⟨some 97, none, .ex (.ia 6) [.s 95, .s 96]⟩ (.op ⟨some 98, none, .ex (.lda 6) [.s 97]⟩ (.op ⟨some 99, none, .ex (.ia 6) [.s 87, .s 88]⟩ (.op ⟨none, none, .ex (.st 6) [.s 99, .s 94]⟩ (.op ⟨some 100, none, .ex (.ia 6) [.s 89, .s 90]⟩ (.op ⟨none, none, .ex (.st 6) [.s 100, .s 98]⟩ .done)))))))))))))))))
        (.seq
         (.region [⟨some 101, none, .ex (.mov) [.s 12]⟩,
           ⟨some 102, none, .ex (.ibin .add) [.s 101, .k (.int .i64 1)]⟩,
           ⟨some 12, none, .ex (.mov) [.s 102]⟩])
         (.seq
          (.region [⟨some 103, none, .ex (.mov) [.s 13]⟩,
            ⟨some 104, none, .ex (.ibin .sub) [.s 103, .k (.int .i64 1)]⟩,
            ⟨some 13, none, .ex (.mov) [.s 104]⟩])
          (.seq
           (.block 4
            (.loop
             (.block 5
              (.seq
               (.block 6
                (.loop
                 (.seq
                  (.seq
                   (.draw (.op ⟨some 105, none, .ex (.mov) [.s 12]⟩ (.op ⟨some 106, none, .ex (.mov) [.s 13]⟩ (.op ⟨some 107, none, .ex (.ibin .leq) [.s 105, .s 106]⟩ (.op ⟨some 108, none, .ex (.mov) [.s 107]⟩ (.op ⟨some 109, some (108, true), .ex (.mov) [.s 4]⟩ (.op ⟨some 110, some (108, true), .ex (.mov) [.s 0]⟩ (.op ⟨some 111, some (108, true), .ex (.mov) [.s 12]⟩ (.op ⟨some 112, some (108, true), .ex (.ia 6) [.s 110, .s 111]⟩ (.op ⟨some 113, some (108, true), .ex (.lda 6) [.s 112]⟩ (.op ⟨some 114, some (108, true), .ex (.mov) [.s 0]⟩ (.op ⟨some 115, some (108, true), .ex (.mov) [.s 1]⟩ (.op ⟨some 116, some (108, true), .ex (.ia 6) [.s 114, .s 115]⟩ (.op ⟨some 117, some (108, true), .ex (.lda 6) [.s 116]⟩ (.op ⟨some 118, some (108, true), .callv (.s 109) [.s 113, .s 117]⟩ (.op ⟨some 119, some (108, true), .ex (.ibin .lss) [.s 118, .k (.int .i64 0)]⟩ (.op ⟨some 120, none, .ex (.pick) [.s 108, .s 119, .k (.bool false)]⟩ .done)))))))))))))))))
                   (.cond (.s 120)
                    .skip
                    (.exit 6)))
                  (.block 7
                   (.region [⟨some 121, none, .ex (.mov) [.s 12]⟩,
                     ⟨some 122, none, .ex (.ibin .add) [.s 121, .k (.int .i64 1)]⟩,
                     ⟨some 12, none, .ex (.mov) [.s 122]⟩])))))
               (.seq
                (.block 8
                 (.loop
                  (.seq
                   (.seq
                    (.draw (.op ⟨some 123, none, .ex (.mov) [.s 12]⟩ (.op ⟨some 124, none, .ex (.mov) [.s 13]⟩ (.op ⟨some 125, none, .ex (.ibin .leq) [.s 123, .s 124]⟩ (.op ⟨some 126, none, .ex (.mov) [.s 125]⟩ (.op ⟨some 127, some (126, true), .ex (.mov) [.s 4]⟩ (.op ⟨some 128, some (126, true), .ex (.mov) [.s 0]⟩ (.op ⟨some 129, some (126, true), .ex (.mov) [.s 13]⟩ (.op ⟨some 130, some (126, true), .ex (.ia 6) [.s 128, .s 129]⟩ (.op ⟨some 131, some (126, true), .ex (.lda 6) [.s 130]⟩ (.op ⟨some 132, some (126, true), .ex (.mov) [.s 0]⟩ (.op ⟨some 133, some (126, true), .ex (.mov) [.s 1]⟩ (.op ⟨some 134, some (126, true), .ex (.ia 6) [.s 132, .s 133]⟩ (.op ⟨some 135, some (126, true), .ex (.lda 6) [.s 134]⟩ (.op ⟨some 136, some (126, true), .callv (.s 127) [.s 131, .s 135]⟩ (.op ⟨some 137, some (126, true), .ex (.ibin .lss) [.s 136, .k (.int .i64 0)]⟩ (.op ⟨some 138, some (126, true), .ex (.bnot) [.s 137]⟩ (.op ⟨some 139, none, .ex (.pick) [.s 126, .s 138, .k (.bool false)]⟩ .done))))))))))))))))))
                    (.cond (.s 139)
                     .skip
                     (.exit 8)))
                   (.block 9
                    (.region [⟨some 140, none, .ex (.mov) [.s 13]⟩,
                      ⟨some 141, none, .ex (.ibin .sub) [.s 140, .k (.int .i64 1)]⟩,
                      ⟨some 13, none, .ex (.mov) [.s 141]⟩])))))
                (.seq
                 (.seq
                  (.region [⟨some 142, none, .ex (.mov) [.s 12]⟩,
                    ⟨some 143, none, .ex (.mov) [.s 13]⟩,
                    ⟨some 144, none, .ex (.ibin .gtr) [.s 142, .s 143]⟩])
                  (.cond (.s 144)
                   (.exit 4)
                   .skip))
                 (.seq
                  (.draw (.op ⟨some 145, none, .ex (.mov) [.s 0]⟩ (.op ⟨some 146, none, .ex (.mov) [.s 12]⟩ (.op ⟨some 147, none, .ex (.mov) [.s 0]⟩ (.op ⟨some 148, none, .ex (.mov) [.s 13]⟩ (.op ⟨some 149, none, .ex (.mov) [.s 0]⟩ (.op ⟨some 150, none, .ex (.mov) [.s 13]⟩ (.op ⟨some 151, none, .ex (.ia 6) [.s 149, .s 150]⟩ (.op ⟨some 152, none, .ex (.lda 6) [.s 151]⟩ (.op ⟨some 153, none, .ex (.mov) [.s 0]⟩ (.op ⟨some 154, none, .ex (.mov) [.s 12]⟩ (.op ⟨some 155, none, .ex (.ia 6) [.s 153, .s 154]⟩ (.op ⟨some 156, none, .ex (.lda 6) [.s 155]⟩ (.op ⟨some 157, none, .ex (.ia 6) [.s 145, .s 146]⟩ (.op ⟨none, none, .ex (.st 6) [.s 157, .s 152]⟩ (.op ⟨some 158, none, .ex (.ia 6) [.s 147, .s 148]⟩ (.op ⟨none, none, .ex (.st 6) [.s 158, .s 156]⟩ .done)))))))))))))))))
                  (.seq
                   (.region [⟨some 159, none, .ex (.mov) [.s 12]⟩,
                     ⟨some 160, none, .ex (.ibin .add) [.s 159, .k (.int .i64 1)]⟩,
                     ⟨some 12, none, .ex (.mov) [.s 160]⟩])
                   (.region [⟨some 161, none, .ex (.mov) [.s 13]⟩,
                     ⟨some 162, none, .ex (.ibin .sub) [.s 161, .k (.int .i64 1)]⟩,
                     ⟨some 13, none, .ex (.mov) [.s 162]⟩])))))))))
           (.seq
            (.draw (.op ⟨some 163, none, .ex (.mov) [.s 0]⟩ (.op ⟨some 164, none, .ex (.mov) [.s 13]⟩ (.op ⟨some 165, none, .ex (.mov) [.s 0]⟩ (.op ⟨some 166, none, .ex (.mov) [.s 1]⟩ (.op ⟨some 167, none, .ex (.mov) [.s 0]⟩ (.op ⟨some 168, none, .ex (.mov) [.s 1]⟩ (.op ⟨some 169, none, .ex (.ia 6) [.s 167, .s 168]⟩ (.op ⟨some 170, none, .ex (.lda 6) [.s 169]⟩ (.op ⟨some 171, none, .ex (.mov) [.s 0]⟩ (.op ⟨some 172, none, .ex (.mov) [.s 13]⟩ (.op ⟨some 173, none, .ex (.ia 6) [.s 171, .s 172]⟩ (.op ⟨some 174, none, .ex (.lda 6) [.s 173]⟩ (.op ⟨some 175, none, .ex (.ia 6) [.s 163, .s 164]⟩ (.op ⟨none, none, .ex (.st 6) [.s 175, .s 170]⟩ (.op ⟨some 176, none, .ex (.ia 6) [.s 165, .s 166]⟩ (.op ⟨none, none, .ex (.st 6) [.s 176, .s 174]⟩ .done)))))))))))))))))
            (.seq
             (.region [⟨some 177, none, .ex (.mov) [.s 13]⟩,
               ⟨some 10, none, .ex (.mov) [.s 177]⟩,
               ⟨some 11, none, .ex (.mov) [.k (.bool false)]⟩])
             .ret)))))))))))),
 [.t 10, .t 11]⟩
theorem c82 : compFn Go.Proofs.Tryd.prog 82 = some fn82 := by kernel_rfl

/-- math/bits.Len32 -/
def fn83 : AFn := ⟨19,
 (.seq
  (.region [⟨some 2, none, .ex (.mov) [.k (.int .i64 0)]⟩])
  (.seq
   (.seq
    (.region [⟨some 3, none, .ex (.mov) [.s 0]⟩,
      ⟨some 4, none, .ex (.ibin .geq) [.s 3, .k (.int .u32 65536)]⟩])
    (.cond (.s 4)
     (.seq
      (.region [⟨some 5, none, .ex (.mov) [.s 0]⟩,
        ⟨some 6, none, .ex (.ibin .shr) [.s 5, .k (.int .u64 16)]⟩,
        ⟨some 0, none, .ex (.mov) [.s 6]⟩])
      (.region [⟨some 2, none, .ex (.mov) [.k (.int .i64 16)]⟩]))
     .skip))
   (.seq
    (.seq
     (.region [⟨some 7, none, .ex (.mov) [.s 0]⟩,
       ⟨some 8, none, .ex (.ibin .geq) [.s 7, .k (.int .u32 256)]⟩])
     (.cond (.s 8)
      (.seq
       (.region [⟨some 9, none, .ex (.mov) [.s 0]⟩,
         ⟨some 10, none, .ex (.ibin .shr) [.s 9, .k (.int .u64 8)]⟩,
         ⟨some 0, none, .ex (.mov) [.s 10]⟩])
       (.region [⟨some 11, none, .ex (.mov) [.s 2]⟩,
         ⟨some 12, none, .ex (.ibin .add) [.s 11, .k (.int .i64 8)]⟩,
         ⟨some 2, none, .ex (.mov) [.s 12]⟩]))
      .skip))
    (.seq
     (.region [⟨some 13, none, .ex (.mov) [.s 2]⟩,
       ⟨some 14, none, .ex (.mov) [.s 0]⟩,
       ⟨some 15, none, .ex (.toInt .u8) [.s 14]⟩,
       ⟨some 16, none, .ex (.idxs) [.k (.str ⟨#[0, 1, 2, 2, 3, 3, 3, 3, 4, 4, 4, 4, 4, 4, 4, 4, 5, 5, 5, 5, 5, 5, 5, 5, 5, 5, 5, 5, 5, 5, 5, 5, 6, 6, 6, 6, 6, 6, 6, 6, 6, 6, 6, 6, 6, 6, 6, 6, 6, 6, 6, 6, 6, 6, 6, 6, 6, 6, 6, 6, 6, 6, 6, 6, 7, 7, 7, 7, 7, 7, 7, 7, 7, 7, 7, 7, 7, 7, 7, 7, 7, 7, 7, 7, 7, 7, 7, 7, 7, 7, 7, 7, 7, 7, 7, 7, 7, 7, 7, 7, 7, 7, 7, 7, 7, 7, 7, 7, 7, 7, 7, 7, 7, 7, 7, 7, 7, 7, 7, 7, 7, 7, 7, 7, 7, 7, 7, 7, 8, 8, 8, 8, 8, 8, 8, 8, 8, 8, 8, 8, 8, 8, 8, 8, 8, 8, 8, 8, 8, 8, 8, 8, 8, 8, 8, 8, 8, 8, 8, 8, 8, 8, 8, 8, 8, 8, 8, 8, 8, 8, 8, 8, 8, 8, 8, 8, 8, 8, 8, 8, 8, 8, 8, 8, 8, 8, 8, 8, 8, 8, 8, 8, 8, 8, 8, 8, 8, 8, 8, 8, 8, 8, 8, 8, 8, 8, 8, 8, 8, 8, 8, 8, 8, 8, 8, 8, 8, 8, 8, 8, 8, 8, 8, 8, 8, 8, 8, 8, 8, 8, 8, 8, 8, 8, 8, 8, 8, 8, 8, 8, 8, 8, 8, 8, 8, 8, 8, 8, 8, 8, 8, 8, 8, 8, 8, 8]⟩), .s 15]⟩,
       ⟨some 17, none, .ex (.toInt .i64) [.s 16]⟩,
       ⟨some 18, none, .ex (.ibin .add) [.s 13, .s 17]⟩,
       ⟨some 2, none, .ex (.mov) [.s 18]⟩])
     .ret)))),
 [.t 2]⟩
theorem c83 : compFn Go.Proofs.Tryd.prog 83 = some fn83 := by kernel_rfl

/-- math/bits.Len64 -/
def fn84 : AFn := ⟨25,
 (.seq
  (.region [⟨some 2, none, .ex (.mov) [.k (.int .i64 0)]⟩])
  (.seq
   (.seq
    (.region [⟨some 3, none, .ex (.mov) [.s 0]⟩,
      ⟨some 4, none, .ex (.ibin .geq) [.s 3, .k (.int .u64 4294967296)]⟩])
    (.cond (.s 4)
     (.seq
      (.region [⟨some 5, none, .ex (.mov) [.s 0]⟩,
        ⟨some 6, none, .ex (.ibin .shr) [.s 5, .k (.int .u64 32)]⟩,
        ⟨some 0, none, .ex (.mov) [.s 6]⟩])
      (.region [⟨some 2, none, .ex (.mov) [.k (.int .i64 32)]⟩]))
     .skip))
   (.seq
    (.seq
     (.region [⟨some 7, none, .ex (.mov) [.s 0]⟩,
       ⟨some 8, none, .ex (.ibin .geq) [.s 7, .k (.int .u64 65536)]⟩])
     (.cond (.s 8)
      (.seq
       (.region [⟨some 9, none, .ex (.mov) [.s 0]⟩,
         ⟨some 10, none, .ex (.ibin .shr) [.s 9, .k (.int .u64 16)]⟩,
         ⟨some 0, none, .ex (.mov) [.s 10]⟩])
       (.region [⟨some 11, none, .ex (.mov) [.s 2]⟩,
         ⟨some 12, none, .ex (.ibin .add) [.s 11, .k (.int .i64 16)]⟩,
         ⟨some 2, none, .ex (.mov) [.s 12]⟩]))
      .skip))
    (.seq
     (.seq
      (.region [⟨some 13, none, .ex (.mov) [.s 0]⟩,
        ⟨some 14, none, .ex (.ibin .geq) [.s 13, .k (.int .u64 256)]⟩])
      (.cond (.s 14)
       (.seq
        (.region [⟨some 15, none, .ex (.mov) [.s 0]⟩,
          ⟨some 16, none, .ex (.ibin .shr) [.s 15, .k (.int .u64 8)]⟩,
          ⟨some 0, none, .ex (.mov) [.s 16]⟩])
        (.region [⟨some 17, none, .ex (.mov) [.s 2]⟩,
          ⟨some 18, none, .ex (.ibin .add) [.s 17, .k (.int .i64 8)]⟩,
          ⟨some 2, none, .ex (.mov) [.s 18]⟩]))
       .skip))
     (.seq
      (.region [⟨some 19, none, .ex (.mov) [.s 2]⟩,
        ⟨some 20, none, .ex (.mov) [.s 0]⟩,
        ⟨some 21, none, .ex (.toInt .u8) [.s 20]⟩,
        ⟨some 22, none, .ex (.idxs) [.k (.str ⟨#[0, 1, 2, 2, 3, 3, 3, 3, 4, 4, 4, 4, 4, 4, 4, 4, 5, 5, 5, 5, 5, 5, 5, 5, 5, 5, 5, 5, 5, 5, 5, 5, 6, 6, 6, 6, 6, 6, 6, 6, 6, 6, 6, 6, 6, 6, 6, 6, 6, 6, 6, 6, 6, 6, 6, 6, 6, 6, 6, 6, 6, 6, 6, 6, 7, 7, 7, 7, 7, 7, 7, 7, 7, 7, 7, 7, 7, 7, 7, 7, 7, 7, 7, 7, 7, 7, 7, 7, 7, 7, 7, 7, 7, 7, 7, 7, 7, 7, 7, 7, 7, 7, 7, 7, 7, 7, 7, 7, 7, 7, 7, 7, 7, 7, 7, 7, 7, 7, 7, 7, 7, 7, 7, 7, 7, 7, 7, 7, 8, 8, 8, 8, 8, 8, 8, 8, 8, 8, 8, 8, 8, 8, 8, 8, 8, 8, 8, 8, 8, 8, 8, 8, 8, 8, 8, 8, 8, 8, 8, 8, 8, 8, 8, 8, 8, 8, 8, 8, 8, 8, 8, 8, 8, 8, 8, 8, 8, 8, 8, 8, 8, 8, 8, 8, 8, 8, 8, 8, 8, 8, 8, 8, 8, 8, 8, 8, 8, 8, 8, 8, 8, 8, 8, 8, 8, 8, 8, 8, 8, 8, 8, 8, 8, 8, 8, 8, 8, 8, 8, 8, 8, 8, 8, 8, 8, 8, 8, 8, 8, 8, 8, 8, 8, 8, 8, 8, 8, 8, 8, 8, 8, 8, 8, 8, 8, 8, 8, 8, 8, 8, 8, 8, 8, 8, 8, 8]⟩), .s 21]⟩,
        ⟨some 23, none, .ex (.toInt .i64) [.s 22]⟩,
        ⟨some 24, none, .ex (.ibin .add) [.s 19, .s 23]⟩,
        ⟨some 2, none, .ex (.mov) [.s 24]⟩])
      .ret))))),
 [.t 2]⟩
theorem c84 : compFn Go.Proofs.Tryd.prog 84 = some fn84 := by kernel_rfl

/-- slices.siftDownCmpFunc[rubric/api.Key] -/
def fn98 : AFn := ⟨82,
 (.seq
  (.region [⟨some 12, none, .ex (.mov) [.s 1]⟩,
    ⟨some 10, none, .ex (.mov) [.s 12]⟩])
  (.block 0
   (.loop
    (.block 1
     (.seq
      (.region [⟨some 13, none, .ex (.mov) [.s 10]⟩,
        ⟨some 14, none, .ex (.ibin .mul) [.k (.int .i64 2), .s 13]⟩,
        ⟨some 15, none, .ex (.ibin .add) [.s 14, .k (.int .i64 1)]⟩,
        ⟨some 11, none, .ex (.mov) [.s 15]⟩])
      (.seq
       (.seq
        (.region [⟨some 16, none, .ex (.mov) [.s 11]⟩,
          ⟨some 17, none, .ex (.mov) [.s 2]⟩,
          ⟨some 18, none, .ex (.ibin .geq) [.s 16, .s 17]⟩])
        (.cond (.s 18)
         (.exit 0)
         .skip))
       (.seq
        (.seq
         (.draw (.op ⟨some 19, none, .ex (.mov) [.s 11]⟩ (.op ⟨some 20, none, .ex (.ibin .add) [.s 19, .k (.int .i64 1)]⟩ (.op ⟨some 21, none, .ex (.mov) [.s 2]⟩ (.op ⟨some 22, none, .ex (.ibin .lss) [.s 20, .s 21]⟩ (.op ⟨some 23, none, .ex (.mov) [.s 22]⟩ (.op ⟨some 24, some (23, true), .ex (.mov) [.s 4]⟩ (.op ⟨some 25, some (23, true), .ex (.mov) [.s 0]⟩ (.op ⟨some 26, some (23, true), .ex (.mov) [.s 3]⟩ (.op ⟨some 27, some (23, true), .ex (.mov) [.s 11]⟩ (.op ⟨some 28, some (23, true), .ex (.ibin .add) [.s 26, .s 27]⟩ (.op ⟨some 29, some (23, true), .ex (.ia 6) [.s 25, .s 28]⟩ (.op ⟨some 30, some (23, true), .ex (.lda 6) [.s 29]⟩ (.op ⟨some 31, some (23, true), .ex (.mov) [.s 0]⟩ (.op ⟨some 32, some (23, true), .ex (.mov) [.s 3]⟩ (.op ⟨some 33, some (23, true), .ex (.mov) [.s 11]⟩ (.op ⟨some 34, some (23, true), .ex (.ibin .add) [.s 32, .s 33]⟩ (.op ⟨some 35, some (23, true), .ex (.ibin .add) [.s 34, .k (.int .i64 1)]⟩ (.op ⟨some 36, some (23, true), .ex (.ia 6) [.s 31, .s 35]⟩ (.op ⟨some 37, some (23, true), .ex (.lda 6) [.s 36]⟩ (.op ⟨some 38, some (23, true), .callv (.s 24) [.s 30, .s 37]⟩ (.op ⟨some 39, some (23, true), .ex (.ibin .lss) [.s 38, .k (.int .i64 0)]⟩ (.op ⟨some 40, none, .ex (.pick) [.s 23, .s 39, .k (.bool false)]⟩ .done)))))))))))))))))))))))
         (.cond (.s 40)
          (.region [⟨some 41, none, .ex (.mov) [.s 11]⟩,
            ⟨some 42, none, .ex (.ibin .add) [.s 41, .k (.int .i64 1)]⟩,
            ⟨some 11, none, .ex (.mov) [.s 42]⟩])
          .skip))
        (.seq
         (.seq
          (.draw (.op ⟨some 43, none, .ex (.mov) [.s 4]⟩ (.op ⟨some 44, none, .ex (.mov) [.s 0]⟩ (.op ⟨some 45, none, .ex (.mov) [.s 3]⟩ (.op ⟨some 46, none, .ex (.mov) [.s 10]⟩ (.op ⟨some 47, none, .ex (.ibin .add) [.s 45, .s 46]⟩ (.op ⟨some 48, none, .ex (.ia 6) [.s 44, .s 47]⟩ (.op ⟨some 49, none, .ex (.lda 6) [.s 48]⟩ (.op ⟨some 50, none, .ex (.mov) [.s 0]⟩ (.op ⟨some 51, none, .ex (.mov) [.s 3]⟩ (.op ⟨some 52, none, .ex (.mov) [.s 11]⟩ (.op ⟨some 53, none, .ex (.ibin .add) [.s 51, .s 52]⟩ (.op ⟨some 54, none, .ex (.ia 6) [.s 50, .s 53]⟩ (.op ⟨some 55, none, .ex (.lda 6) [.s 54]⟩ (.op ⟨some 56, none, .callv (.s 43) [.s 49, .s 55]⟩ (.op ⟨some 57, none, .ex (.ibin .lss) [.s 56, .k (.int .i64 0)]⟩ (.op ⟨some 58, none, .ex (.bnot) [.s 57]⟩ .done)))))))))))))))))
          (.cond (.s 58)
           .ret
           .skip))
         (.seq
          (.draw (.op ⟨some 59, none, .ex (.mov) [.s 0]⟩ (.op ⟨some 60, none, .ex (.mov) [.s 3]⟩ (.op ⟨some 61, none, .ex (.mov) [.s 10]⟩ (.op ⟨some 62, none, .ex (.ibin .add) [.s 60, .s 61]⟩ (.op ⟨some 63, none, .ex (.mov) [.s 0]⟩ (.op ⟨some 64, none, .ex (.mov) [.s 3]⟩ (.op ⟨some 65, none, .ex (.mov) [.s 11]⟩ (.op ⟨some 66, none, .ex (.ibin .add) [.s 64, .s 65]⟩ (.op ⟨some 67, none, .ex (.mov) [.s 0]⟩ (.op ⟨some 68, none, .ex (.mov) [.s 3]⟩ (.op ⟨some 69, none, .ex (.mov) [.s 11]⟩ (.op ⟨some 70, none, .ex (.ibin .add) [.s 68, .s 69]⟩ (.op ⟨some 71, none, .ex (.ia 6) [.s 67, .s 70]⟩ (.op ⟨some 72, none, .ex (.lda 6) [.s 71]⟩ (.op ⟨some 73, none, .ex (.mov) [.s 0]⟩ (.op ⟨some 74, none, .ex (.mov) [.s 3]⟩ (.op ⟨some 75, none, .ex (.mov) [.s 10]⟩ (.op ⟨some 76, none, .ex (.ibin .add) [.s 74, .s 75]⟩ (.op ⟨some 77, none, .ex (.ia 6) [.s 73, .s 76]⟩ (.op ⟨some 78, none, .ex (.lda 6) [.s 77]⟩ (.op ⟨some 79, none, .ex (.ia 6) [.s 59, .s 62]⟩ (.op ⟨none, none, .ex (.st 6) [.s 79, .s 72]⟩ (.op ⟨some 80, none, .ex (.ia 6) [.s 63, .s 66]⟩ (.op ⟨none, none, .ex (.st 6) [.s 80, .s 78]⟩ .done)))))))))))))))))))))))))
          (.region [⟨some 81, none, .ex (.mov) [.s 11]⟩,
            ⟨some 10, none, .ex (.mov) [.s 81]⟩])))))))))),
 []⟩
theorem c98 : compFn Go.Proofs.Tryd.prog 98 = some fn98 := by kernel_rfl

/-- slices.nextPowerOfTwo -/
def fn99 : AFn := ⟨7,
 (.seq
  (.region [⟨some 2, none, .ex (.mov) [.k (.int .u64 0)]⟩])
  (.seq
   (.region [⟨some 3, none, .ex (.mov) [.s 0]⟩,
     ⟨some 4, none, .ex (.toInt .u64) [.s 3]⟩,
     ⟨some 5, none, .callf 55 [.s 4]⟩,
     ⟨some 6, none, .ex (.ibin .shl) [.k (.int .u64 1), .s 5]⟩,
     ⟨some 2, none, .ex (.mov) [.s 6]⟩])
   .ret)),
 [.t 2]⟩
theorem c99 : compFn Go.Proofs.Tryd.prog 99 = some fn99 := by kernel_rfl

/-- (*slices.xorshift).Next -/
def fn100 : AFn := ⟨33,
 (.seq
  (.region [⟨some 2, none, .ex (.mov) [.k (.int .u64 0)]⟩])
  (.seq
   (.draw (.op ⟨some 3, none, .ex (.mov) [.s 0]⟩ (.op ⟨some 4, none, .ex (.nilck) [.s 3]⟩ (.op ⟨some 5, none, .ex (.ld 1) [.s 4]⟩ (.op ⟨some 6, none, .ex (.mov) [.s 0]⟩ (.op ⟨some 7, none, .ex (.nilck) [.s 6]⟩ (.op ⟨some 8, none, .ex (.ld 1) [.s 7]⟩ (.op ⟨some 9, none, .ex (.ibin .shl) [.s 8, .k (.int .u64 13)]⟩ (.op ⟨some 10, none, .ex (.ibin .xor) [.s 5, .s 9]⟩ (.op ⟨some 11, none, .ex (.nilck) [.s 3]⟩ (.op ⟨none, none, .ex (.st 1) [.s 11, .s 10]⟩ .done)))))))))))
   (.seq
    (.draw (.op ⟨some 12, none, .ex (.mov) [.s 0]⟩ (.op ⟨some 13, none, .ex (.nilck) [.s 12]⟩ (.op ⟨some 14, none, .ex (.ld 1) [.s 13]⟩ (.op ⟨some 15, none, .ex (.mov) [.s 0]⟩ (.op ⟨some 16, none, .ex (.nilck) [.s 15]⟩ (.op ⟨some 17, none, .ex (.ld 1) [.s 16]⟩ (.op ⟨some 18, none, .ex (.ibin .shr) [.s 17, .k (.int .u64 7)]⟩ (.op ⟨some 19, none, .ex (.ibin .xor) [.s 14, .s 18]⟩ (.op ⟨some 20, none, .ex (.nilck) [.s 12]⟩ (.op ⟨none, none, .ex (.st 1) [.s 20, .s 19]⟩ .done)))))))))))
    (.seq
     (.draw (.op ⟨some 21, none, .ex (.mov) [.s 0]⟩ (.op ⟨some 22, none, .ex (.nilck) [.s 21]⟩ (.op ⟨some 23, none, .ex (.ld 1) [.s 22]⟩ (.op ⟨some 24, none, .ex (.mov) [.s 0]⟩ (.op ⟨some 25, none, .ex (.nilck) [.s 24]⟩ (.op ⟨some 26, none, .ex (.ld 1) [.s 25]⟩ (.op ⟨some 27, none, .ex (.ibin .shl) [.s 26, .k (.int .u64 17)]⟩ (.op ⟨some 28, none, .ex (.ibin .xor) [.s 23, .s 27]⟩ (.op ⟨some 29, none, .ex (.nilck) [.s 21]⟩ (.op ⟨none, none, .ex (.st 1) [.s 29, .s 28]⟩ .done)))))))))))
     (.seq
      (.region [⟨some 30, none, .ex (.mov) [.s 0]⟩,
        ⟨some 31, none, .ex (.nilck) [.s 30]⟩,
        ⟨some 32, none, .ex (.ld 1) [.s 31]⟩,
        ⟨some 2, none, .ex (.mov) [.s 32]⟩])
      .ret))))),
 [.t 2]⟩
theorem c100 : compFn Go.Proofs.Tryd.prog 100 = some fn100 := by kernel_rfl

/-- slices.medianAdjacentCmpFunc[rubric/api.Key] -/
def fn101 : AFn := ⟨18,
 (.seq
  (.region [⟨some 8, none, .ex (.mov) [.k (.int .i64 0)]⟩])
  (.seq
   (.region [⟨some 9, none, .ex (.mov) [.s 0]⟩,
     ⟨some 10, none, .ex (.mov) [.s 1]⟩,
     ⟨some 11, none, .ex (.ibin .sub) [.s 10, .k (.int .i64 1)]⟩,
     ⟨some 12, none, .ex (.mov) [.s 1]⟩,
     ⟨some 13, none, .ex (.mov) [.s 1]⟩,
     ⟨some 14, none, .ex (.ibin .add) [.s 13, .k (.int .i64 1)]⟩,
     ⟨some 15, none, .ex (.mov) [.s 2]⟩,
     ⟨some 16, none, .ex (.mov) [.s 3]⟩,
     ⟨some 17, none, .callf 102 [.s 9, .s 11, .s 12, .s 14, .s 15, .s 16]⟩,
     ⟨some 8, none, .ex (.mov) [.s 17]⟩])
   .ret)),
 [.t 8]⟩
theorem c101 : compFn Go.Proofs.Tryd.prog 101 = some fn101 := by kernel_rfl

/-- slices.medianCmpFunc[rubric/api.Key] -/
def fn102 : AFn := ⟨41,
 (.seq
  (.region [⟨some 12, none, .ex (.mov) [.k (.int .i64 0)]⟩])
  (.seq
   (.region [⟨some 14, none, .ex (.mov) [.s 0]⟩,
     ⟨some 15, none, .ex (.mov) [.s 1]⟩,
     ⟨some 16, none, .ex (.mov) [.s 2]⟩,
     ⟨some 17, none, .ex (.mov) [.s 4]⟩,
     ⟨some 18, none, .ex (.mov) [.s 5]⟩,
     ⟨some 19, none, .callf 107 [.s 14, .s 15, .s 16, .s 17, .s 18]⟩,
     ⟨some 13, none, .ex (.mov) [.s 19]⟩,
     ⟨some 20, none, .ex (.ext 0) [.s 13]⟩,
     ⟨some 21, none, .ex (.ext 1) [.s 13]⟩,
     ⟨some 1, none, .ex (.mov) [.s 20]⟩,
     ⟨some 2, none, .ex (.mov) [.s 21]⟩])
   (.seq
    (.region [⟨some 23, none, .ex (.mov) [.s 0]⟩,
      ⟨some 24, none, .ex (.mov) [.s 2]⟩,
      ⟨some 25, none, .ex (.mov) [.s 3]⟩,
      ⟨some 26, none, .ex (.mov) [.s 4]⟩,
      ⟨some 27, none, .ex (.mov) [.s 5]⟩,
      ⟨some 28, none, .callf 107 [.s 23, .s 24, .s 25, .s 26, .s 27]⟩,
      ⟨some 22, none, .ex (.mov) [.s 28]⟩,
      ⟨some 29, none, .ex (.ext 0) [.s 22]⟩,
      ⟨some 30, none, .ex (.ext 1) [.s 22]⟩,
      ⟨some 2, none, .ex (.mov) [.s 29]⟩,
      ⟨some 3, none, .ex (.mov) [.s 30]⟩])
    (.seq
     (.region [⟨some 32, none, .ex (.mov) [.s 0]⟩,
       ⟨some 33, none, .ex (.mov) [.s 1]⟩,
       ⟨some 34, none, .ex (.mov) [.s 2]⟩,
       ⟨some 35, none, .ex (.mov) [.s 4]⟩,
       ⟨some 36, none, .ex (.mov) [.s 5]⟩,
       ⟨some 37, none, .callf 107 [.s 32, .s 33, .s 34, .s 35, .s 36]⟩,
       ⟨some 31, none, .ex (.mov) [.s 37]⟩,
       ⟨some 38, none, .ex (.ext 0) [.s 31]⟩,
       ⟨some 39, none, .ex (.ext 1) [.s 31]⟩,
       ⟨some 1, none, .ex (.mov) [.s 38]⟩,
       ⟨some 2, none, .ex (.mov) [.s 39]⟩])
     (.seq
      (.region [⟨some 40, none, .ex (.mov) [.s 2]⟩,
        ⟨some 12, none, .ex (.mov) [.s 40]⟩])
      .ret))))),
 [.t 12]⟩
theorem c102 : compFn Go.Proofs.Tryd.prog 102 = some fn102 := by kernel_rfl

/-- slices.order2CmpFunc[rubric/api.Key] -/
def fn107 : AFn := ⟨32,
 (.seq
  (.region [⟨some 10, none, .ex (.mov) [.k (.int .i64 0)]⟩,
    ⟨some 11, none, .ex (.mov) [.k (.int .i64 0)]⟩])
  (.seq
   (.seq
    (.draw (.op ⟨some 12, none, .ex (.mov) [.s 4]⟩ (.op ⟨some 13, none, .ex (.mov) [.s 0]⟩ (.op ⟨some 14, none, .ex (.mov) [.s 2]⟩ (.op ⟨some 15, none, .ex (.ia 6) [.s 13, .s 14]⟩ (.op ⟨some 16, none, .ex (.lda 6) [.s 15]⟩ (.op ⟨some 17, none, .ex (.mov) [.s 0]⟩ (.op ⟨some 18, none, .ex (.mov) [.s 1]⟩ (.op ⟨some 19, none, .ex (.ia 6) [.s 17, .s 18]⟩ (.op ⟨some 20, none, .ex (.lda 6) [.s 19]⟩ (.op ⟨some 21, none, .callv (.s 12) [.s 16, .s 20]⟩ (.op ⟨some 22, none, .ex (.ibin .lss) [.s 21, .k (.int .i64 0)]⟩ .done))))))))))))
    (.cond (.s 22)
     (.seq
      (.region [⟨some 23, none, .ex (.mov) [.s 3]⟩,
        ⟨some 24, none, .ex (.nilck) [.s 23]⟩,
        ⟨some 25, none, .ex (.ld 1) [.s 24]⟩,
        ⟨some 26, none, .ex (.ibin .add) [.s 25, .k (.int .i64 1)]⟩,
        ⟨some 27, none, .ex (.nilck) [.s 23]⟩,
        ⟨none, none, .ex (.st 1) [.s 27, .s 26]⟩])
      (.seq
       (.region [⟨some 28, none, .ex (.mov) [.s 2]⟩,
         ⟨some 29, none, .ex (.mov) [.s 1]⟩,
         ⟨some 10, none, .ex (.mov) [.s 28]⟩,
         ⟨some 11, none, .ex (.mov) [.s 29]⟩])
       .ret))
     .skip))
   (.seq
    (.region [⟨some 30, none, .ex (.mov) [.s 1]⟩,
      ⟨some 31, none, .ex (.mov) [.s 2]⟩,
      ⟨some 10, none, .ex (.mov) [.s 30]⟩,
      ⟨some 11, none, .ex (.mov) [.s 31]⟩])
    .ret))),
 [.t 10, .t 11]⟩
theorem c107 : compFn Go.Proofs.Tryd.prog 107 = some fn107 := by kernel_rfl

/-- unicode/utf8.Valid -/
def fn108 : AFn := ⟨188,
 (.seq
  (.region [⟨some 2, none, .ex (.mov) [.k (.bool false)]⟩])
  (.seq
   (.region [⟨some 7, none, .ex (.mov) [.s 0]⟩,
     ⟨some 8, none, .ex (.mov) [.s 0]⟩,
     ⟨some 9, none, .ex (.len) [.s 8]⟩,
     ⟨some 10, none, .ex (.mov) [.s 0]⟩,
     ⟨some 11, none, .ex (.len) [.s 10]⟩,
     ⟨some 12, none, .ex (.slc 1 false true true) [.s 7, .s 9, .s 11]⟩,
     ⟨some 0, none, .ex (.mov) [.s 12]⟩])
   (.seq
    (.block 0
     (.loop
      (.seq
       (.seq
        (.region [⟨some 13, none, .ex (.mov) [.s 0]⟩,
          ⟨some 14, none, .ex (.len) [.s 13]⟩,
          ⟨some 15, none, .ex (.ibin .gtr) [.s 14, .k (.int .i64 0)]⟩])
        (.cond (.s 15)
         .skip
         (.exit 0)))
       (.block 1
        (.seq
         (.region [⟨some 16, none, .ex (.mov) [.s 0]⟩,
           ⟨some 17, none, .ex (.ia 1) [.s 16, .k (.int .i64 0)]⟩,
           ⟨some 18, none, .ex (.ld 1) [.s 17]⟩,
           ⟨some 3, none, .ex (.mov) [.s 18]⟩])
         (.seq
          (.seq
           (.region [⟨some 19, none, .ex (.mov) [.s 3]⟩,
             ⟨some 20, none, .ex (.ibin .lss) [.s 19, .k (.int .u8 128)]⟩])
           (.cond (.s 20)
            (.seq
             (.region [⟨some 21, none, .ex (.mov) [.s 0]⟩,
               ⟨some 22, none, .ex (.slc 1 true false false) [.s 21, .k (.int .i64 1)]⟩,
               ⟨some 0, none, .ex (.mov) [.s 22]⟩])
             (.seq
              (.seq
               (.region [⟨some 23, none, .ex (.mov) [.s 0]⟩,
                 ⟨some 24, none, .ex (.len) [.s 23]⟩,
                 ⟨some 25, none, .ex (.ibin .gtr) [.s 24, .k (.int .i64 8)]⟩,
                 ⟨some 26, none, .ex (.mov) [.s 25]⟩,
                 ⟨some 27, some (26, true), .ex (.mov) [.s 0]⟩,
                 ⟨some 28, some (26, true), .callf 109 [.s 27]⟩,
                 ⟨some 29, some (26, true), .ex (.ibin .and) [.s 28, .k (.int .u64 9259542123273814144)]⟩,
                 ⟨some 30, some (26, true), .ex (.ibin .eql) [.s 29, .k (.int .u64 0)]⟩,
                 ⟨some 31, none, .ex (.pick) [.s 26, .s 30, .k (.bool false)]⟩])
               (.cond (.s 31)
                (.seq
                 (.region [⟨some 32, none, .ex (.mov) [.s 0]⟩,
                   ⟨some 33, none, .ex (.slc 1 true false false) [.s 32, .k (.int .i64 8)]⟩,
                   ⟨some 0, none, .ex (.mov) [.s 33]⟩])
                 (.seq
                  (.draw (.op ⟨some 34, none, .ex (.mov) [.s 0]⟩ (.op ⟨some 35, none, .ex (.len) [.s 34]⟩ (.op ⟨some 36, none, .ex (.ibin .gtr) [.s 35, .k (.int .i64 16)]⟩ (.op ⟨some 37, none, .ex (.mov) [.s 36]⟩ (.op ⟨some 38, some (37, true), .ex (.mov) [.s 0]⟩ (.op ⟨some 40, some (37, true), .ex (.mov) [.s 0]⟩ (.fork (.op ⟨some 39, some (37, true), .callf 109 [.s 38]⟩ (.op ⟨some 41, some (37, true), .ex (.slc 1 true false false) [.s 40, .k (.int .i64 8)]⟩ (.op ⟨some 42, some (37, true), .callf 109 [.s 41]⟩ (.op ⟨some 43, some (37, true), .ex (.ibin .or) [.s 39, .s 42]⟩ (.op ⟨some 44, some (37, true), .ex (.ibin .and) [.s 43, .k (.int .u64 9259542123273814144)]⟩ (.op ⟨some 45, some (37, true), .ex (.ibin .eql) [.s 44, .k (.int .u64 0)]⟩ (.op ⟨some 46, none, .ex (.pick) [.s 37, .s 45, .k (.bool false)]⟩ .done))))))) (.op ⟨some 41, some (37, true), .ex (.slc 1 true false false) [.s 40, .k (.int .i64 8)]⟩ (.op ⟨some 39, some (37, true), .callf 109 [.s 38]⟩ (.op ⟨some 42, some (37, true), .callf 109 [.s 41]⟩ (.op ⟨some 43, some (37, true), .ex (.ibin .or) [.s 39, .s 42]⟩ (.op ⟨some 44, some (37, true), .ex (.ibin .and) [.s 43, .k (.int .u64 9259542123273814144)]⟩ (.op ⟨some 45, some (37, true), .ex (.ibin .eql) [.s 44, .k (.int .u64 0)]⟩ (.op ⟨some 46, none, .ex (.pick) [.s 37, .s 45, .k (.bool false)]⟩ .done)))))))))))))))
                  (.cond (.s 46)
                   (.seq
                    (.region [⟨some 47, none, .ex (.mov) [.s 0]⟩,
                      ⟨some 48, none, .ex (.slc 1 true false false) [.s 47, .k (.int .i64 16)]⟩,
                      ⟨some 0, none, .ex (.mov) [.s 48]⟩])
                    (.block 2
                     (.loop
                      (.seq
                       (.seq
                        (.draw (.op ⟨some 49, none, .ex (.mov) [.s 0]⟩ (.op ⟨some 50, none, .ex (.len) [.s 49]⟩ (.op ⟨some 51, none, .ex (.ibin .gtr) [.s 50, .k (.int .i64 32)]⟩ (.op ⟨some 52, none, .ex (.mov) [.s 51]⟩ (.op ⟨some 53, some (52, true), .ex (.mov) [.s 0]⟩ (.op ⟨some 55, some (52, true), .ex (.mov) [.s 0]⟩ (.op ⟨some 59, some (52, true), .ex (.mov) [.s 0]⟩ (.op ⟨some 62, some (52, true), .ex (.mov) [.s 0]⟩ (.fork (.op ⟨some 54, some (52, true), .callf 109 [.s 53]⟩ (.op ⟨some 56, some (52, true), .ex (.slc 1 true false false) [.s 55, .k (.int .i64 8)]⟩ (.fork (.op ⟨some 57, some (52, true), .callf 109 [.s 56]⟩ (.op ⟨some 58, some (52, true), .ex (.ibin .or) [.s 54, .s 57]⟩ (.op ⟨some 60, some (52, true), .ex (.slc 1 true false false) [.s 59, .k (.int .i64 16)]⟩ (.fork (.op ⟨some 61, some (52, true), .callf 109 [.s 60]⟩ (.op ⟨some 63, some (52, true), .ex (.slc 1 true false false) [.s 62, .k (.int .i64 24)]⟩ (.op ⟨some 64, some (52, true), .callf 109 [.s 63]⟩ (.op ⟨some 65, some (52, true), .ex (.ibin .or) [.s 61, .s 64]⟩ (.op ⟨some 66, some (52, true), .ex (.ibin .or) [.s 58, .s 65]⟩ (.op ⟨some 67, some (52, true), .ex (.ibin .and) [.s 66, .k (.int .u64 9259542123273814144)]⟩ (.op ⟨some 68, some (52, true), .ex (.ibin .eql) [.s 67, .k (.int .u64 0)]⟩ (.op ⟨some 69, none, .ex (.pick) [.s 52, .s 68, .k (.bool false)]⟩ .done)))))))) (.op ⟨some 63, some (52, true), .ex (.slc 1 true false false) [.s 62, .k (.int .i64 24)]⟩ (.op ⟨some 61, some (52, true), .callf 109 [.s 60]⟩ (.op ⟨some 64, some (52, true), .callf 109 [.s 63]⟩ (.op ⟨some 65, some (52, true), .ex (.ibin .or) [.s 61, .s 64]⟩ (.op ⟨some 66, some (52, true), .ex (.ibin .or) [.s 58, .s 65]⟩ (.op ⟨some 67, some (52, true), .ex (.ibin .and) [.s 66, .k (.int .u64 9259542123273814144)]⟩ (.op ⟨some 68, some (52, true), .ex (.ibin .eql) [.s 67, .k (.int .u64 0)]⟩ (.op ⟨some 69, none, .ex (.pick) [.s 52, .s 68, .k (.bool false)]⟩ .done)))))))))))) (.fork (.op ⟨some 60, some (52, true), .ex (.slc 1 true false false) [.s 59, .k (.int .i64 16)]⟩ (.fork (.op ⟨some 57, some (52, true), .callf 109 [.s 56]⟩ (.op ⟨some 58, some (52, true), .ex (.ibin .or) [.s 54, .s 57]⟩ (.fork (.op ⟨some 61, some (52, true), .callf 109 [.s 60]⟩ (.op ⟨some 63, some (52, true), .ex (.slc 1 true false false) [.s 62, .k (.int .i64 24)]⟩ (.op ⟨some 64, some (52, true), .callf 109 [.s 63]⟩ (.op ⟨some 65, some (52, true), .ex (.ibin .or) [.s 61, .s 64]⟩ (.op ⟨some 66, some (52, true), .ex (.ibin .or) [.s 58, .s 65]⟩ (.op ⟨some 67, some (52, true), .ex (.ibin .and) [.s 66, .k (.int .u64 9259542123273814144)]⟩ (.op ⟨some 68, some (52, true), .ex (.ibin .eql) [.s 67, .k (.int .u64 0)]⟩ (.op ⟨some 69, none, .ex (.pick) [.s 52, .s 68, .k (.bool false)]⟩ .done)))))))) (.op ⟨some 63, some (52, true), .ex (.slc 1 true false false) [.s 62, .k (.int .i64 24)]⟩ (.op ⟨some 61, some (52, true), .callf 109 [.s 60]⟩ (.op ⟨some 64, some (52, true), .callf 109 [.s 63]⟩ (.op ⟨some 65, some (52, true), .ex (.ibin .or) [.s 61, .s 64]⟩ (.op ⟨some 66, some (52, true), .ex (.ibin .or) [.s 58, .s 65]⟩ (.op ⟨some 67, some (52, true), .ex (.ibin .and) [.s 66, .k (.int .u64 9259542123273814144)]⟩ (.op ⟨some 68, some (52, true), .ex (.ibin .eql) [.s 67, .k (.int .u64 0)]⟩ (.op ⟨some 69, none, .ex (.pick) [.s 52, .s 68, .k (.bool false)]⟩ .done))))))))))) (.op ⟨some 63, some (52, true), .ex (.slc 1 true false false) [.s 62, .k (.int .i64 24)]⟩ (.op ⟨some 57, some (52, true), .callf 109 [.s 56]⟩ (.op ⟨some 58, some (52, true), .ex (.ibin .or) [.s 54, .s 57]⟩ (.op ⟨some 61, some (52, true), .callf 109 [.s 60]⟩ (.op ⟨some 64, some (52, true), .callf 109 [.s 63]⟩ (.op ⟨some 65, some (52, true), .ex (.ibin .or) [.s 61, .s 64]⟩ (.op ⟨some 66, some (52, true), .ex (.ibin .or) [.s 58, .s 65]⟩ (.op ⟨some 67, some (52, true), .ex (.ibin .and) [.s 66, .k (.int .u64 9259542123273814144)]⟩ (.op ⟨some 68, some (52, true), .ex (.ibin .eql) [.s 67, .k (.int .u64 0)]⟩ (.op ⟨some 69, none, .ex (.pick) [.s 52, .s 68, .k (.bool false)]⟩ .done)))))))))))) (.op ⟨some 63, some (52, true), .ex (.slc 1 true false false) [.s 62, .k (.int .i64 24)]⟩ (.fork (.op ⟨some 57, some (52, true), .callf 109 [.s 56]⟩ (.op ⟨some 58, some (52, true), .ex (.ibin .or) [.s 54, .s 57]⟩ (.op ⟨some 60, some (52, true), .ex (.slc 1 true false false) [.s 59, .k (.int .i64 16)]⟩ (.op ⟨some 61, some (52, true), .callf 109 [.s 60]⟩ (.op ⟨some 64, some (52, true), .callf 109 [.s 63]⟩ (.op ⟨some 65, some (52, true), .ex (.ibin .or) [.s 61, .s 64]⟩ (.op ⟨some 66, some (52, true), .ex (.ibin .or) [.s 58, .s 65]⟩ (.op ⟨some 67, some (52, true), .ex (.ibin .and) [.s 66, .k (.int .u64 9259542123273814144)]⟩ (.op ⟨some 68, some (52, true), .ex (.ibin .eql) [.s 67, .k (.int .u64 0)]⟩ (.op ⟨some 69, none, .ex (.pick) [.s 52, .s 68, .k (.bool false)]⟩ .done)))))))))) (.op ⟨some 60, some (52, true), .ex (.slc 1 true false false) [.s 59, .k (.int .i64 16)]⟩ (.op ⟨some 57, some (52, true), .callf 109 [.s 56]⟩ (.op ⟨some 58, some (52, true), .ex (.ibin .or) [.s 54, .s 57]⟩ (.op ⟨some 61, some (52, true), .callf 109 [.s 60]⟩ (.op ⟨some 64, some (52, true), .callf 109 [.s 63]⟩ (.op ⟨some 65, some (52, true), .ex (.ibin .or) [.s 61, .s 64]⟩ (.op ⟨some 66, some (52, true), .ex (.ibin .or) [.s 58, .s 65]⟩ (.op ⟨some 67, some (52, true), .ex (.ibin .and) [.s 66, .k (.int .u64 9259542123273814144)]⟩ (.op ⟨some 68, some (52, true), .ex (.ibin .eql) [.s 67, .k (.int .u64 0)]⟩ (.op ⟨some 69, none, .ex (.pick) [.s 52, .s 68, .k (.bool false)]⟩ .done)))))))))))))))) (.fork (.op ⟨some 56, some (52, true), .ex (.slc 1 true false false) [.s 55, .k (.int .i64 8)]⟩ (.fork (.op ⟨some 54, some (52, true), .callf 109 [.s 53]⟩ (.fork (.op ⟨some 57, some (52, true), .callf 109 [.s 56]⟩ (.op ⟨some 58, some (52, true), .ex (.ibin .or) [.s 54, .s 57]⟩ (.op ⟨some 60, some (52, true), .ex (.slc 1 true false false) [.s 59, .k (.int .i64 16)]⟩ (.fork (.op ⟨some 61, some (52, true), .callf 109 [.s 60]⟩ (.op ⟨some 63, some (52, true), .ex (.slc 1 true false false) [.s 62, .k (.int .i64 24)]⟩ (.op ⟨some 64, some (52, true), .callf 109 [.s 63]⟩ (.op ⟨some 65, some (52, true), .ex (.ibin .or) [.s 61, .s 64]⟩ (.op ⟨some 66, some (52, true), .ex (.ibin .or) [.s 58, .s 65]⟩ (.op ⟨some 67, some (52, true), .ex (.ibin .and) [.s 66, .k (.int .u64 9259542123273814144)]⟩ (.op ⟨some 68, some (52, true), .ex (.ibin .eql) [.s 67, .k (.int .u64 0)]⟩ (.op ⟨some 69, none, .ex (.pick) [.s 52, .s 68, .k (.bool false)]⟩ .done)))))))) (.op ⟨some 63, some (52, true), .ex (.slc 1 true false false) [.s 62, .k (.int .i64 24)]⟩ (.op ⟨some 61, some (52, true), .callf 109 [.s 60]⟩ (.op ⟨some 64, some (52, true), .callf 109 [.s 63]⟩ (.op ⟨some 65, some (52, true), .ex (.ibin .or) [.s 61, .s 64]⟩ (.op ⟨some 66, some (52, true), .ex (.ibin .or) [.s 58, .s 65]⟩ (.op ⟨some 67, some (52, true), .ex (.ibin .and) [.s 66, .k (.int .u64 9259542123273814144)]⟩ (.op ⟨some 68, some (52, true), .ex (.ibin .eql) [.s 67, .k (.int .u64 0)]⟩ (.op ⟨some 69, none, .ex (.pick) [.s 52, .s 68, .k (.bool false)]⟩ .done)))))))))))) (.fork (.op ⟨some 60, some (52, true), .ex (.slc 1 true false false) [.s 59, .k (.int .i64 16)]⟩ (.fork (.op ⟨some 57, some (52, true), .callf 109 [.s 56]⟩ (.op ⟨some 58, some (52, true), .ex (.ibin .or) [.s 54, .s 57]⟩ (.fork (.op ⟨some 61, some (52, true), .callf 109 [.s 60]⟩ (.op ⟨some 63, some (52, true), .ex (.slc 1 true false false) [.s 62, .k (.int .i64 24)]⟩ (.op ⟨some 64, some (52, true), .callf 109 [.s 63]⟩ (.op ⟨some 65, some (52, true), .ex (.ibin .or) [.s 61, .s 64]⟩ (.op ⟨some 66, some (52, true), .ex (.ibin .or) [.s 58, .s 65]⟩ (.op ⟨some 67, some (52, true), .ex (.ibin .and) [.s 66, .k (.int .u64 9259542123273814144)]⟩ (.op ⟨some 68, some (52, true), .ex (.ibin .eql) [.s 67, .k (.int .u64 0)]⟩ (.op ⟨some 69, none, .ex (.pick) [.s 52, .s 68, .k (.bool false)]⟩ .done)))))))) (.op ⟨some 63, some (52, true), .ex (.slc 1 true false false) [.s 62, .k (.int .i64 24)]⟩ (.op ⟨some 61, some (52, true), .callf 109 [.s 60]⟩ (.op ⟨some 64, some (52, true), .callf 109 [.s 63]⟩ (.op ⟨some 65, some (52, true), .ex (.ibin .or) [.s 61, .s 64]⟩ (.op ⟨some 66, some (52, true), .ex (.ibin .or) [.s 58, .s 65]⟩ (.op ⟨some 67, some (52, true), .ex (.ibin .and) [.s 66, .k (.int .u64 9259542123273814144)]⟩ (.op ⟨some 68, some (52, true), .ex (.ibin .eql) [.s 67, .k (.int .u64 0)]⟩ (.op ⟨some 69, none, .ex (.pick) [.s 52, .s 68, .k (.bool false)]⟩ .done))))))))))) (.op ⟨some 63, some (52, true), .ex (.slc 1 true false false) [.s 62, .k (.int .i64 24)]⟩ (.op ⟨some 57, some (52, true), .callf 109 [.s 56]⟩ (.op ⟨some 58, some (52, true), .ex (.ibin .or) [.s 54, .s 57]⟩ (.op ⟨some 61, some (52, true), .callf 109 [.s 60]⟩ (.op ⟨some 64, some (52, true), .callf 109 [.s 63]⟩ (.op ⟨some 65, some (52, true), .ex (.ibin .or) [.s 61, .s 64]⟩ (.op ⟨some 66, some (52, true), .ex (.ibin .or) [.s 58, .s 65]⟩ (.op ⟨some 67, some (52, true), .ex (.ibin .and) [.s 66, .k (.int .u64 9259542123273814144)]⟩ (.op ⟨some 68, some (52, true), .ex (.ibin .eql) [.s 67, .k (.int .u64 0)]⟩ (.op ⟨some 69, none, .ex (.pick) [.s 52, .s 68, .k (.bool false)]⟩ .done)))))))))))) (.op ⟨some 63, some (52, true), .ex (.slc 1 true false false) [.s 62, .k (.int .i64 24)]⟩ (.fork (.op ⟨some 57, some (52, true), .callf 109 [.s 56]⟩ (.op ⟨some 58, some (52, true), .ex (.ibin .or) [.s 54, .s 57]⟩ (.op ⟨some 60, some (52, true), .ex (.slc 1 true false false) [.s 59, .k (.int .i64 16)]⟩ (.op ⟨some 61, some (52, true), .callf 109 [.s 60]⟩ (.op ⟨some 64, some (52, true), .callf 109 [.s 63]⟩ (.op ⟨some 65, some (52, true), .ex (.ibin .or) [.s 61, .s 64]⟩ (.op ⟨some 66, some (52, true), .ex (.ibin .or) [.s 58, .s 65]⟩ (.op ⟨some 67, some (52, true), .ex (.ibin .and) [.s 66, .k (.int .u64 9259542123273814144)]⟩ (.op ⟨some 68, some (52, true), .ex (.ibin .eql) [.s 67, .k (.int .u64 0)]⟩ (.op ⟨some 69, none, .ex (.pick) [.s 52, .s 68, .k (.bool false)]⟩ .done)))))))))) (.op ⟨some 60, some (52, true), .ex (.slc 1 true false false) [.s 59, .k (.int .i64 16)]⟩ (.op ⟨some 57, some (52, true), .callf 109 [.s 56]⟩ (.op ⟨some 58, some (52, true), .ex (.ibin .or) [.s 54, .s 57]⟩ (.op ⟨some 61, some (52, true), .callf 109 [.s 60]⟩ (.op ⟨some 64, some (52, true), .callf 109 [.s 63]⟩ (.op ⟨some 65, some (52, true), .ex (.ibin .or) [.s 61, .s 64]⟩ (.op ⟨some 66, some (52, true), .ex (.ibin .or) [.s 58, .s 65]⟩ (.op ⟨some 67, some (52, true), .ex (.ibin .and) [.s 66, .k (.int .u64 9259542123273814144)]⟩ (.op ⟨some 68, some (52, true), .ex (.ibin .eql) [.s 67, .k (.int .u64 0)]⟩ (.op ⟨some 69, none, .ex (.pick) [.s 52, .s 68, .k (.bool false)]⟩ .done))))))))))))))) (.fork (.op ⟨some 60, some (52, true), .ex (.slc 1 true false false) [.s 59, .k (.int .i64 16)]⟩ (.fork (.op ⟨some 54, some (52, true), .callf 109 [.s 53]⟩ (.fork (.op ⟨some 57, some (52, true), .callf 109 [.s 56]⟩ (.op ⟨some 58, some (52, true), .ex (.ibin .or) [.s 54, .s 57]⟩ (.fork (.op ⟨some 61, some (52, true), .callf 109 [.s 60]⟩ (.op ⟨some 63, some (52, true), .ex (.slc 1 true false false) [.s 62, .k (.int .i64 24)]⟩ (.op ⟨some 64, some (52, true), .callf 109 [.s 63]⟩ (.op ⟨some 65, some (52, true), .ex (.ibin .or) [.s 61, .s 64]⟩ (.op ⟨some 66, some (52, true), .ex (.ibin .or) [.s 58, .s 65]⟩ (.op ⟨some 67, some (52, true), .ex (.ibin .and) [.s 66, .k (.int .u64 9259542123273814144)]⟩ (.op ⟨some 68, some (52, true), .ex (.ibin .eql) [.s 67, .k (.int .u64 0)]⟩ (.op ⟨some 69, none, .ex (.pick) [.s 52, .s 68, .k (.bool false)]⟩ .done)))))))) (.op ⟨some 63, some (52, true), .ex (.slc 1 true false false) [.s 62, .k (.int .i64 24)]⟩ (.op ⟨some 61, some (52, true), .callf 109 [.s 60]⟩ (.op ⟨some 64, some (52, true), .callf 109 [.s 63]⟩ (.op ⟨some 65, some (52, true), .ex (.ibin .or) [.s 61, .s 64]⟩ (.op ⟨some 66, some (52, true), .ex (.ibin .or) [.s 58, .s 65]⟩ (.op ⟨some 67, some (52, true), .ex (.ibin .and) [.s 66, .k (.int .u64 9259542123273814144)]⟩ (.op ⟨some 68, some (52, true), .ex (.ibin .eql) [.s 67, .k (.int .u64 0)]⟩ (.op ⟨some 69, none, .ex (.pick) [.s 52, .s 68, .k (.bool false)]⟩ .done))))))))))) (.op ⟨some 63, some (52, true), .ex (.slc 1 true false false) [.s 62, .k (.int .i64 24)]⟩ (.op ⟨some 57, some (52, true), .callf 109 [.s 56]⟩ (.op ⟨some 58, some (52, true), .ex (.ibin .or) [.s 54, .s 57]⟩ (.op ⟨some 61, some (52, true), .callf 109 [.s 60]⟩ (.op ⟨some 64, some (52, true), .callf 109 [.s 63]⟩ (.op ⟨some 65, some (52, true), .ex (.ibin .or) [.s 61, .s 64]⟩ (.op ⟨some 66, some (52, true), .ex (.ibin .or) [.s 58, .s 65]⟩ (.op ⟨some 67, some (52, true), .ex (.ibin .and) [.s 66, .k (.int .u64 9259542123273814144)]⟩ (.op ⟨some 68, some (52, true), .ex (.ibin .eql) [.s 67, .k (.int .u64 0)]⟩ (.op ⟨some 69, none, .ex (.pick) [.s 52, .s 68, .k (.bool false)]⟩ .done)))))))))))) (.op ⟨some 63, some (52, true), .ex (.slc 1 true false false) [.s 62, .k (.int .i64 24)]⟩ (.op ⟨some 54, some (52, true), .callf 109 [.s 53]⟩ (.op ⟨some 57, some (52, true), .callf 109 [.s 56]⟩ (.op ⟨some 58, some (52, true), .ex (.ibin .or) [.s 54, .s 57]⟩ (.op ⟨some 61, some (52, true), .callf 109 [.s 60]⟩ (.op ⟨some 64, some (52, true), .callf 109 [.s 63]⟩ (.op ⟨some 65, some (52, true), .ex (.ibin .or) [.s 61, .s 64]⟩ (.op ⟨some 66, some (52, true), .ex (.ibin .or) [.s 58, .s 65]⟩ (.op ⟨some 67, some (52, true), .ex (.ibin .and) [.s 66, .k (.int .u64 9259542123273814144)]⟩ (.op ⟨some 68, some (52, true), .ex (.ibin .eql) [.s 67, .k (.int .u64 0)]⟩ (.op ⟨some 69, none, .ex (.pick) [.s 52, .s 68, .k (.bool false)]⟩ .done))))))))))))) (.op ⟨some 63, some (52, true), .ex (.slc 1 true false false) [.s 62, .k (.int .i64 24)]⟩ (.fork (.op ⟨some 54, some (52, true), .callf 109 [.s 53]⟩ (.fork (.op ⟨some 57, some (52, true), .callf 109 [.s 56]⟩ (.op ⟨some 58, some (52, true), .ex (.ibin .or) [.s 54, .s 57]⟩ (.op ⟨some 60, some (52, true), .ex (.slc 1 true false false) [.s 59, .k (.int .i64 16)]⟩ (.op ⟨some 61, some (52, true), .callf 109 [.s 60]⟩ (.op ⟨some 64, some (52, true), .callf 109 [.s 63]⟩ (.op ⟨some 65, some (52, true), .ex (.ibin .or) [.s 61, .s 64]⟩ (.op ⟨some 66, some (52, true), .ex (.ibin .or) [.s 58, .s 65]⟩ (.op ⟨some 67, some (52, true), .ex (.ibin .and) [.s 66, .k (.int .u64 9259542123273814144)]⟩ (.op ⟨some 68, some (52, true), .ex (.ibin .eql) [.s 67, .k (.int .u64 0)]⟩ (.op ⟨some 69, none, .ex (.pick) [.s 52, .s 68, .k (.bool false)]⟩ .done)))))))))) (.op ⟨some 60, some (52, true), .ex (.slc 1 true false false) [.s 59, .k (.int .i64 16)]⟩ (.op ⟨some 57, some (52, true), .callf 109 [.s 56]⟩ (.op ⟨some 58, some (52, true), .ex (.ibin .or) [.s 54, .s 57]⟩ (.op ⟨some 61, some (52, true), .callf 109 [.s 60]⟩ (.op ⟨some 64, some (52, true), .callf 109 [.s 63]⟩ (.op ⟨some 65, some (52, true), .ex (.ibin .or) [.s 61, .s 64]⟩ (.op ⟨some 66, some (52, true), .ex (.ibin .or) [.s 58, .s 65]⟩ (.op ⟨some 67, some (52, true), .ex (.ibin .and) [.s 66, .k (.int .u64 9259542123273814144)]⟩ (.op ⟨some 68, some (52, true), .ex (.ibin .eql) [.s 67, .k (.int .u64 0)]⟩ (.op ⟨some 69, none, .ex (.pick) [.s 52, .s 68, .k (.bool false)]⟩ .done)))))))))))) (.op ⟨some 60, some (52, true), .ex (.slc 1 true false false) [.s 59, .k (.int .i64 16)]⟩ (.op ⟨some 54, some (52, true), .callf 109 [.s 53]⟩ (.op ⟨some 57, some (52, true), .callf 109 [.s 56]⟩ (.op ⟨some 58, some (52, true), .ex (.ibin .or) [.s 54, .s 57]⟩ (.op ⟨some 61, some (52, true), .callf 109 [.s 60]⟩ (.op ⟨some 64, some (52, true), .callf 109 [.s 63]⟩ (.op ⟨some 65, some (52, true), .ex (.ibin .or) [.s 61, .s 64]⟩ (.op ⟨some 66, some (52, true), .ex (.ibin .or) [.s 58, .s 65]⟩ (.op ⟨some 67, some (52, true), .ex (.ibin .and) [.s 66, .k (.int .u64 9259542123273814144)]⟩ (.op ⟨some 68, some (52, true), .ex (.ibin .eql) [.s 67, .k (.int .u64 0)]⟩ (.op ⟨some 69, none, .ex (.pick) [.s 52, .s 68, .k (.bool false)]⟩ .done)))))))))))))))) (.fork (.op ⟨some 60, some (52, true), .ex (.slc 1 true false false) [.s 59, .k (.int .i64 16)]⟩ (.fork (.op ⟨some 54, some (52, true), .callf 109 [.s 53]⟩ (.op ⟨some 56, some (52, true), .ex (.slc 1 true false false) [.s 55, .k (.int .i64 8)]⟩ (.fork (.op ⟨some 57, some (52, true), .callf 109 [.s 56]⟩ (.op ⟨some 58, some (52, true), .ex (.ibin .or) [.s 54, .s 57]⟩ (.fork (.op ⟨some 61, some (52, true), .callf 109 [.s 60]⟩ (.op ⟨some 63, some (52, true), .ex (.slc 1 true false false) [.s 62, .k (.int .i64 24)]⟩ (.op ⟨some 64, some (52, true), .callf 109 [.s 63]⟩ (.op ⟨some 65, some (52, true), .ex (.ibin .or) [.s 61, .s 64]⟩ (.op ⟨some 66, some (52, true), .ex (.ibin .or) [.s 58, .s 65]⟩ (.op ⟨some 67, some (52, true), .ex (.ibin .and) [.s 66, .k (.int .u64 9259542123273814144)]⟩ (.op ⟨some 68, some (52, true), .ex (.ibin .eql) [.s 67, .k (.int .u64 0)]⟩ (.op ⟨some 69, none, .ex (.pick) [.s 52, .s 68, .k (.bool false)]⟩ .done)))))))) (.op ⟨some 63, some (52, true), .ex (.slc 1 true false false) [.s 62, .k (.int .i64 24)]⟩ (.op ⟨some 61, some (52, true), .callf 109 [.s 60]⟩ (.op ⟨some 64, some (52, true), .callf 109 [.s 63]⟩ (.op ⟨some 65, some (52, true), .ex (.ibin .or) [.s 61, .s 64]⟩ (.op ⟨some 66, some (52, true), .ex (.ibin .or) [.s 58, .s 65]⟩ (.op ⟨some 67, some (52, true), .ex (.ibin .and) [.s 66, .k (.int .u64 9259542123273814144)]⟩ (.op ⟨some 68, some (52, true), .ex (.ibin .eql) [.s 67, .k (.int .u64 0)]⟩ (.op ⟨some 69, none, .ex (.pick) [.s 52, .s 68, .k (.bool false)]⟩ .done))))))))))) (.op ⟨some 63, some (52, true), .ex (.slc 1 true false false) [.s 62, .k (.int .i64 24)]⟩ (.op ⟨some 57, some (52, true), .callf 109 [.s 56]⟩ (.op ⟨some 58, some (52, true), .ex (.ibin .or) [.s 54, .s 57]⟩ (.op ⟨some 61, some (52, true), .callf 109 [.s 60]⟩ (.op ⟨some 64, some (52, true), .callf 109 [.s 63]⟩ (.op ⟨some 65, some (52, true), .ex (.ibin .or) [.s 61, .s 64]⟩ (.op ⟨some 66, some (52, true), .ex (.ibin .or) [.s 58, .s 65]⟩ (.op ⟨some 67, some (52, true), .ex (.ibin .and) [.s 66, .k (.int .u64 9259542123273814144)]⟩ (.op ⟨some 68, some (52, true), .ex (.ibin .eql) [.s 67, .k (.int .u64 0)]⟩ (.op ⟨some 69, none, .ex (.pick) [.s 52, .s 68, .k (.bool false)]⟩ .done))))))))))))) (.fork (.op ⟨some 56, some (52, true), .ex (.slc 1 true false false) [.s 55, .k (.int .i64 8)]⟩ (.fork (.op ⟨some 54, some (52, true), .callf 109 [.s 53]⟩ (.fork (.op ⟨some 57, some (52, true), .callf 109 [.s 56]⟩ (.op ⟨some 58, some (52, true), .ex (.ibin .or) [.s 54, .s 57]⟩ (.fork (.op ⟨some 61, some (52, true), .callf 109 [.s 60]⟩ (.op ⟨some 63, some (52, true), .ex (.slc 1 true false false) [.s 62, .k (.int .i64 24)]⟩ (.op ⟨some 64, some (52, true), .callf 109 [.s 63]⟩ (.op ⟨some 65, some (52, true), .ex (.ibin .or) [.s 61, .s 64]⟩ (.op ⟨some 66, some (52, true), .ex (.ibin .or) [.s 58, .s 65]⟩ (.op ⟨some 67, some (52, true), .ex (.ibin .and) [.s 66, .k (.int .u64 9259542123273814144)]⟩ (.op ⟨some 68, some (52, true), .ex (.ibin .eql) [.s 67, .k (.int .u64 0)]⟩ (.op ⟨some 69, none, .ex (.pick) [.s 52, .s 68, .k (.bool false)]⟩ .done)))))))) (.op ⟨some 63, some (52, true), .ex (.slc 1 true false false) [.s 62, .k (.int .i64 24)]⟩ (.op ⟨some 61, some (52, true), .callf 109 [.s 60]⟩ (.op ⟨some 64, some (52, true), .callf 109 [.s 63]⟩ (.op ⟨some 65, some (52, true), .ex (.ibin .or) [.s 61, .s 64]⟩ (.op ⟨some 66, some (52, true), .ex (.ibin .or) [.s 58, .s 65]⟩ (.op ⟨some 67, some (52, true), .ex (.ibin .and) [.s 66, .k (.int .u64 9259542123273814144)]⟩ (.op ⟨some 68, some (52, true), .ex (.ibin .eql) [.s 67, .k (.int .u64 0)]⟩ (.op ⟨some 69, none, .ex (.pick) [.s 52, .s 68, .k (.bool false)]⟩ .done))))))))))) (.op ⟨some 63, some (52, true), .ex (.slc 1 true false false) [.s 62, .k (.int .i64 24)]⟩ (.op ⟨some 57, some (52, true), .callf 109 [.s 56]⟩ (.op ⟨some 58, some (52, true), .ex (.ibin .or) [.s 54, .s 57]⟩ (.op ⟨some 61, some (52, true), .callf 109 [.s 60]⟩ (.op ⟨some 64, some (52, true), .callf 109 [.s 63]⟩ (.op ⟨some 65, some (52, true), .ex (.ibin .or) [.s 61, .s 64]⟩ (.op ⟨some 66, some (52, true), .ex (.ibin .or) [.s 58, .s 65]⟩ (.op ⟨some 67, some (52, true), .ex (.ibin .and) [.s 66, .k (.int .u64 9259542123273814144)]⟩ (.op ⟨some 68, some (52, true), .ex (.ibin .eql) [.s 67, .k (.int .u64 0)]⟩ (.op ⟨some 69, none, .ex (.pick) [.s 52, .s 68, .k (.bool false)]⟩ .done)))))))))))) (.op ⟨some 63, some (52, true), .ex (.slc 1 true false false) [.s 62, .k (.int .i64 24)]⟩ (.op ⟨some 54, some (52, true), .callf 109 [.s 53]⟩ (.op ⟨some 57, some (52, true), .callf 109 [.s 56]⟩ (.op ⟨some 58, some (52, true), .ex (.ibin .or) [.s 54, .s 57]⟩ (.op ⟨some 61, some (52, true), .callf 109 [.s 60]⟩ (.op ⟨some 64, some (52, true), .callf 109 [.s 63]⟩ (.op ⟨some 65, some (52, true), .ex (.ibin .or) [.s 61, .s 64]⟩ (.op ⟨some 66, some (52, true), .ex (.ibin .or) [.s 58, .s 65]⟩ (.op ⟨some 67, some (52, true), .ex (.ibin .and) [.s 66, .k (.int .u64 9259542123273814144)]⟩ (.op ⟨some 68, some (52, true), .ex (.ibin .eql) [.s 67, .k (.int .u64 0)]⟩ (.op ⟨some 69, none, .ex (.pick) [.s 52, .s 68, .k (.bool false)]⟩ .done))))))))))))) (.op ⟨some 63, some (52, true), .ex (.slc 1 true false false) [.s 62, .k (.int .i64 24)]⟩ (.fork (.op ⟨some 54, some (52, true), .callf 109 [.s 53]⟩ (.op ⟨some 56, some (52, true), .ex (.slc 1 true false false) [.s 55, .k (.int .i64 8)]⟩ (.op ⟨some 57, some (52, true), .callf 109 [.s 56]⟩ (.op ⟨some 58, some (52, true), .ex (.ibin .or) [.s 54, .s 57]⟩ (.op ⟨some 61, some (52, true), .callf 109 [.s 60]⟩ (.op ⟨some 64, some (52, true), .callf 109 [.s 63]⟩ (.op ⟨some 65, some (52, true), .ex (.ibin .or) [.s 61, .s 64]⟩ (.op ⟨some 66, some (52, true), .ex (.ibin .or) [.s 58, .s 65]⟩ (.op ⟨some 67, some (52, true), .ex (.ibin .and) [.s 66, .k (.int .u64 9259542123273814144)]⟩ (.op ⟨some 68, some (52, true), .ex (.ibin .eql) [.s 67, .k (.int .u64 0)]⟩ (.op ⟨some 69, none, .ex (.pick) [.s 52, .s 68, .k (.bool false)]⟩ .done))))))))))) (.op ⟨some 56, some (52, true), .ex (.slc 1 true false false) [.s 55, .k (.int .i64 8)]⟩ (.op ⟨some 54, some (52, true), .callf 109 [.s 53]⟩ (.op ⟨some 57, some (52, true), .callf 109 [.s 56]⟩ (.op ⟨some 58, some (52, true), .ex (.ibin .or) [.s 54, .s 57]⟩ (.op ⟨some 61, some (52, true), .callf 109 [.s 60]⟩ (.op ⟨some 64, some (52, true), .callf 109 [.s 63]⟩ (.op ⟨some 65, some (52, true), .ex (.ibin .or) [.s 61, .s 64]⟩ (.op ⟨some 66, some (52, true), .ex (.ibin .or) [.s 58, .s 65]⟩ (.op ⟨some 67, some (52, true), .ex (.ibin .and) [.s 66, .k (.int .u64 9259542123273814144)]⟩ (.op ⟨some 68, some (52, true), .ex (.ibin .eql) [.s 67, .k (.int .u64 0)]⟩ (.op ⟨some 69, none, .ex (.pick) [.s 52, .s 68, .k (.bool false)]⟩ .done)))))))))))))))) (.op ⟨some 63, some (52, true), .ex (.slc 1 true false false) [.s 62, .k (.int .i64 24)]⟩ (.fork (.op ⟨some 54, some (52, true), .callf 109 [.s 53]⟩ (.op ⟨some 56, some (52, true), .ex (.slc 1 true false false) [.s 55, .k (.int .i64 8)]⟩ (.fork (.op ⟨some 57, some (52, true), .callf 109 [.s 56]⟩ (.op ⟨some 58, some (52, true), .ex (.ibin .or) [.s 54, .s 57]⟩ (.op ⟨some 60, some (52, true), .ex (.slc 1 true false false) [.s 59, .k (.int .i64 16)]⟩ (.op ⟨some 61, some (52, true), .callf 109 [.s 60]⟩ (.op ⟨some 64, some (52, true), .callf 109 [.s 63]⟩ (.op ⟨some 65, some (52, true), .ex (.ibin .or) [.s 61, .s 64]⟩ (.op ⟨some 66, some (52, true), .ex (.ibin .or) [.s 58, .s 65]⟩ (.op ⟨some 67, some (52, true), .ex (.ibin .and) [.s 66, .k (.int .u64 9259542123273814144)]⟩ (.op ⟨some 68, some (52, true), .ex (.ibin .eql) [.s 67, .k (.int .u64 0)]⟩ (.op ⟨some 69, none, .ex (.pick) [.s 52, .s 68, .k (.bool false)]⟩ .done)))))))))) (.op ⟨some 60, some (52, true), .ex (.slc 1 true false false) [.s 59, .k (.int .i64 16)]⟩ (.op ⟨some 57, some (52, true), .callf 109 [.s 56]⟩ (.op ⟨some 58, some (52, true), .ex (.ibin .or) [.s 54, .s 57]⟩ (.op ⟨some 61, some (52, true), .callf 109 [.s 60]⟩ (.op ⟨some 64, some (52, true), .callf 109 [.s 63]⟩ (.op ⟨some 65, some (52, true), .ex (.ibin .or) [.s 61, .s 64]⟩ (.op ⟨some 66, some (52, true), .ex (.ibin .or) [.s 58, .s 65]⟩ (.op ⟨some 67, some (52, true), .ex (.ibin .and) [.s 66, .k (.int .u64 9259542123273814144)]⟩ (.op ⟨some 68, some (52, true), .ex (.ibin .eql) [.s 67, .k (.int .u64 0)]⟩ (.op ⟨some 69, none, .ex (.pick) [.s 52, .s 68, .k (.bool false)]⟩ .done))))))))))))) (.fork (.op ⟨some 56, some (52, true), .ex (.slc 1 true false false) [.s 55, .k (.int .i64 8)]⟩ (.fork (.op ⟨some 54, some (52, true), .callf 109 [.s 53]⟩ (.fork (.op ⟨some 57, some (52, true), .callf 109 [.s 56]⟩ (.op ⟨some 58, some (52, true), .ex (.ibin .or) [.s 54, .s 57]⟩ (.op ⟨some 60, some (52, true), .ex (.slc 1 true false false) [.s 59, .k (.int .i64 16)]⟩ (.op ⟨some 61, some (52, true), .callf 109 [.s 60]⟩ (.op ⟨some 64, some (52, true), .callf 109 [.s 63]⟩ (.op ⟨some 65, some (52, true), .ex (.ibin .or) [.s 61, .s 64]⟩ (.op ⟨some 66, some (52, true), .ex (.ibin .or) [.s 58, .s 65]⟩ (.op ⟨some 67, some (52, true), .ex (.ibin .and) [.s 66, .k (.int .u64 9259542123273814144)]⟩ (.op ⟨some 68, some (52, true), .ex (.ibin .eql) [.s 67, .k (.int .u64 0)]⟩ (.op ⟨some 69, none, .ex (.pick) [.s 52, .s 68, .k (.bool false)]⟩ .done)))))))))) (.op ⟨some 60, some (52, true), .ex (.slc 1 true false false) [.s 59, .k (.int .i64 16)]⟩ (.op ⟨some 57, some (52, true), .callf 109 [.s 56]⟩ (.op ⟨some 58, some (52, true), .ex (.ibin .or) [.s 54, .s 57]⟩ (.op ⟨some 61, some (52, true), .callf 109 [.s 60]⟩ (.op ⟨some 64, some (52, true), .callf 109 [.s 63]⟩ (.op ⟨some 65, some (52, true), .ex (.ibin .or) [.s 61, .s 64]⟩ (.op ⟨some 66, some (52, true), .ex (.ibin .or) [.s 58, .s 65]⟩ (.op ⟨some 67, some (52, true), .ex (.ibin .and) [.s 66, .k (.int .u64 9259542123273814144)]⟩ (.op ⟨some 68, some (52, true), .ex (.ibin .eql) [.s 67, .k (.int .u64 0)]⟩ (.op ⟨some 69, none, .ex (.pick) [.s 52, .s 68, .k (.bool false)]⟩ .done)))))))))))) (.op ⟨some 60, some (52, true), .ex (.slc 1 true false false) [.s 59, .k (.int .i64 16)]⟩ (.op ⟨some 54, some (52, true), .callf 109 [.s 53]⟩ (.op ⟨some 57, some (52, true), .callf 109 [.s 56]⟩ (.op ⟨some 58, some (52, true), .ex (.ibin .or) [.s 54, .s 57]⟩ (.op ⟨some 61, some (52, true), .callf 109 [.s 60]⟩ (.op ⟨some 64, some (52, true), .callf 109 [.s 63]⟩ (.op ⟨some 65, some (52, true), .ex (.ibin .or) [.s 61, .s 64]⟩ (.op ⟨some 66, some (52, true), .ex (.ibin .or) [.s 58, .s 65]⟩ (.op ⟨some 67, some (52, true), .ex (.ibin .and) [.s 66, .k (.int .u64 9259542123273814144)]⟩ (.op ⟨some 68, some (52, true), .ex (.ibin .eql) [.s 67, .k (.int .u64 0)]⟩ (.op ⟨some 69, none, .ex (.pick) [.s 52, .s 68, .k (.bool false)]⟩ .done))))))))))))) (.op ⟨some 60, some (52, true), .ex (.slc 1 true false false) [.s 59, .k (.int .i64 16)]⟩ (.fork (.op ⟨some 54, some (52, true), .callf 109 [.s 53]⟩ (.op ⟨some 56, some (52, true), .ex (.slc 1 true false false) [.s 55, .k (.int .i64 8)]⟩ (.op ⟨some 57, some (52, true), .callf 109 [.s 56]⟩ (.op ⟨some 58, some (52, true), .ex (.ibin .or) [.s 54, .s 57]⟩ (.op ⟨some 61, some (52, true), .callf 109 [.s 60]⟩ (.op ⟨some 64, some (52, true), .callf 109 [.s 63]⟩ (.op ⟨some 65, some (52, true), .ex (.ibin .or) [.s 61, .s 64]⟩ (.op ⟨some 66, some (52, true), .ex (.ibin .or) [.s 58, .s 65]⟩ (.op ⟨some 67, some (52, true), .ex (.ibin .and) [.s 66, .k (.int .u64 9259542123273814144)]⟩ (.op ⟨some 68, some (52, true), .ex (.ibin .eql) [.s 67, .k (.int .u64 0)]⟩ (.op ⟨some 69, none, .ex (.pick) [.s 52, .s 68, .k (.bool false)]⟩ .done))))))))))) (.op ⟨some 56, some (52, true), .ex (.slc 1 true false false) [.s 55, .k (.int .i64 8)]⟩ (.op ⟨some 54, some (52, true), .callf 109 [.s 53]⟩ (.op ⟨some 57, some (52, true), .callf 109 [.s 56]⟩ (.op ⟨some 58, some (52, true), .ex (.ibin .or) [.s 54, .s 57]⟩ (.op ⟨some 61, some (52, true), .callf 109 [.s 60]⟩ (.op ⟨some 64, some (52, true), .callf 109 [.s 63]⟩ (.op ⟨some 65, some (52, true), .ex (.ibin .or) [.s 61, .s 64]⟩ (.op ⟨some 66, some (52, true), .ex (.ibin .or) [.s 58, .s 65]⟩ (.op ⟨some 67, some (52, true), .ex (.ibin .and) [.s 66, .k (.int .u64 9259542123273814144)]⟩ (.op ⟨some 68, some (52, true), .ex (.ibin .eql) [.s 67, .k (.int .u64 0)]⟩ (.op ⟨some 69, none, .ex (.pick) [.s 52, .s 68, .k (.bool false)]⟩ .done))))))))))))))))))))))))))))
                        (.cond (.s 69)
                         .skip
                         (.exit 2)))
                       (.block 3
                        (.region [⟨some 70, none, .ex (.mov) [.s 0]⟩,
                          ⟨some 71, none, .ex (.slc 1 true false false) [.s 70, .k (.int .i64 32)]⟩,
                          ⟨some 0, none, .ex (.mov) [.s 71]⟩]))))))
                   .skip)))
                .skip))
              (.exit 1)))
            .skip))
          (.seq
           (.region [⟨some 72, none, .ex (.mov) [.s 3]⟩,
             ⟨some 73, none, .ex (.iar 256 1) [.g 1, .s 72]⟩,
             ⟨some 74, none, .ex (.ld 1) [.s 73]⟩,
             ⟨some 4, none, .ex (.mov) [.s 74]⟩])
           (.seq
            (.region [⟨some 75, none, .ex (.mov) [.s 4]⟩,
              ⟨some 76, none, .ex (.ibin .and) [.s 75, .k (.int .u8 7)]⟩,
              ⟨some 77, none, .ex (.toInt .i64) [.s 76]⟩,
              ⟨some 5, none, .ex (.mov) [.s 77]⟩])
            (.seq
             (.region [⟨some 78, none, .ex (.mov) [.s 4]⟩,
               ⟨some 79, none, .ex (.ibin .shr) [.s 78, .k (.int .u64 4)]⟩,
               ⟨some 80, none, .ex (.iar 16 2) [.g 2, .s 79]⟩,
               ⟨some 81, none, .ex (.lda 2) [.s 80]⟩,
               ⟨some 6, none, .ex (.alloc [(.int .u8 0), (.int .u8 0)]) []⟩,
               ⟨none, none, .ex (.st 2) [.s 6, .s 81]⟩])
             (.seq
              (.region [⟨some 82, none, .ex (.mov) [.s 5]⟩])
              (.block 4
               (.seq
                (.region [⟨some 84, none, .ex (.ibin .eql) [.s 82, .k (.int .i64 2)]⟩,
                  ⟨some 83, none, .ex (.mov) [.s 84]⟩])
                (.cond (.s 83)
                 (.seq
                  (.seq
                   (.draw (.op ⟨some 85, none, .ex (.mov) [.s 0]⟩ (.op ⟨some 86, none, .ex (.len) [.s 85]⟩ (.op ⟨some 87, none, .ex (.ibin .lss) [.s 86, .k (.int .i64 2)]⟩ (.op ⟨some 88, none, .ex (.mov) [.s 87]⟩ (.op ⟨some 89, some (88, false), .ex (.mov) [.s 0]⟩ (.op ⟨some 90, some (88, false), .ex (.ia 1) [.s 89, .k (.int .i64 1)]⟩ (.op ⟨some 91, some (88, false), .ex (.ld 1) [.s 90]⟩ (.op ⟨some 92, some (88, false), .ex (.fa 0) [.s 6]⟩ (.op ⟨some 93, some (88, false), .ex (.ld 1) [.s 92]⟩ (.op ⟨some 94, some (88, false), .ex (.ibin .lss) [.s 91, .s 93]⟩ (.op ⟨some 95, none, .ex (.pick) [.s 88, .k (.bool true), .s 94]⟩ (.op ⟨some 96, none, .ex (.mov) [.s 95]⟩ (.op ⟨some 97, some (96, false), .ex (.fa 1) [.s 6]⟩ (.op ⟨some 98, some (96, false), .ex (.ld 1) [.s 97]⟩ (.op ⟨some 99, some (96, false), .ex (.mov) [.s 0]⟩ (.op ⟨some 100, some (96, false), .ex (.ia 1) [.s 99, .k (.int .i64 1)]⟩ (.op ⟨some 101, some (96, false), .ex (.ld 1) [.s 100]⟩ (.op ⟨some 102, some (96, false), .ex (.ibin .lss) [.s 98, .s 101]⟩ (.op ⟨some 103, none, .ex (.pick) [.s 96, .k (.bool true), .s 102]⟩ .done))))))))))))))))))))
                   (.cond (.s 103)
                    (.seq
                     (.region [⟨some 2, none, .ex (.mov) [.k (.bool false)]⟩])
                     .ret)
                    .skip))
                  (.region [⟨some 104, none, .ex (.mov) [.s 0]⟩,
                    ⟨some 105, none, .ex (.slc 1 true false false) [.s 104, .k (.int .i64 2)]⟩,
                    ⟨some 0, none, .ex (.mov) [.s 105]⟩]))
                 (.seq
                  (.region [⟨some 107, none, .ex (.ibin .eql) [.s 82, .k (.int .i64 3)]⟩,
                    ⟨some 106, none, .ex (.mov) [.s 107]⟩])
                  (.cond (.s 106)
                   (.seq
                    (.seq
                     (.draw (.op ⟨some 108, none, .ex (.mov) [.s 0]⟩ (.op ⟨some 109, none, .ex (.len) [.s 108]⟩ (.op ⟨some 110, none, .ex (.ibin .lss) [.s 109, .k (.int .i64 3)]⟩ (.op ⟨some 111, none, .ex (.mov) [.s 110]⟩ (.op ⟨some 112, some (111, false), .ex (.mov) [.s 0]⟩ (.op ⟨some 113, some (111, false), .ex (.ia 1) [.s 112, .k (.int .i64 1)]⟩ (.op ⟨some 114, some (111, false), .ex (.ld 1) [.s 113]⟩ (.op ⟨some 115, some (111, false), .ex (.fa 0) [.s 6]⟩ (.op ⟨some 116, some (111, false), .ex (.ld 1) [.s 115]⟩ (.op ⟨some 117, some (111, false), .ex (.ibin .lss) [.s 114, .s 116]⟩ (.op ⟨some 118, none, .ex (.pick) [.s 111, .k (.bool true), .s 117]⟩ (.op ⟨some 119, none, .ex (.mov) [.s 118]⟩ (.op ⟨some 120, some (119, false), .ex (.fa 1) [.s 6]⟩ (.op ⟨some 121, some (119, false), .ex (.ld 1) [.s 120]⟩ (.op ⟨some 122, some (119, false), .ex (.mov) [.s 0]⟩ (.op ⟨some 123, some (119, false), .ex (.ia 1) [.s 122, .k (.int .i64 1)]⟩ (.op ⟨some 124, some (119, false), .ex (.ld 1) [.s 123]⟩ (.op ⟨some 125, some (119, false), .ex (.ibin .lss) [.s 121, .s 124]⟩ (.op ⟨some 126, none, .ex (.pick) [.s 119, .k (.bool true), .s 125]⟩ (.op ⟨some 127, none, .ex (.mov) [.s 126]⟩ (.op ⟨some 128, some (127, false), .ex (.mov) [.s 0]⟩ (.op ⟨some 129, some (127, false), .ex (.ia 1) [.s 128, .k (.int .i64 2)]⟩ (.op ⟨some 130, some (127, false), .ex (.ld 1) [.s 129]⟩ (.op ⟨some 131, some (127, false), .ex (.ibin .lss) [.s 130, .k (.int .u8 128)]⟩ (.op ⟨some 132, none, .ex (.pick) [.s 127, .k (.bool true), .s 131]⟩ (.op ⟨some 133, none, .ex (.mov) [.s 132]⟩ (.op ⟨some 134, some (133, false), .ex (.mov) [.s 0]⟩ (.op ⟨some 135, some (133, false), .ex (.ia 1) [.s 134, .k (.int .i64 2)]⟩ (.op ⟨some 136, some (133, false), .ex (.ld 1) [.s 135]⟩ (.op ⟨some 137, some (133, false), .ex (.ibin .lss) [.k (.int .u8 191), .s 136]⟩ (.op ⟨some 138, none, .ex (.pick) [.s 133, .k (.bool true), .s 137]⟩ .done))))))))))))))))))))))))))))))))
                     (.cond (.s 138)
                      (.seq
                       (.region [⟨some 2, none, .ex (.mov) [.k (.bool false)]⟩])
                       .ret)
                      .skip))
                    (.region [⟨some 139, none, .ex (.mov) [.s 0]⟩,
                      ⟨some 140, none, .ex (.slc 1 true false false) [.s 139, .k (.int .i64 3)]⟩,
                      ⟨some 0, none, .ex (.mov) [.s 140]⟩]))
                   (.seq
                    (.region [⟨some 142, none, .ex (.ibin .eql) [.s 82, .k (.int .i64 4)]⟩,
                      ⟨some 141, none, .ex (.mov) [.s 142]⟩])
                    (.cond (.s 141)
                     (.seq
                      (.seq
                       (.draw (.op ⟨some 143, none, .ex (.mov) [.s 0]⟩ (.op ⟨some 144, none, .ex (.len) [.s 143]⟩ (.op ⟨some 145, none, .ex (.ibin .lss) [.s 144, .k (.int .i64 4)]⟩ (.op ⟨some 146, none, .ex (.mov) [.s 145]⟩ (.op ⟨some 147, some (146, false), .ex (.mov) [.s 0]⟩ (.op ⟨some 148, some (146, false), .ex (.ia 1) [.s 147, .k (.int .i64 1)]⟩ (.op ⟨some 149, some (146, false), .ex (.ld 1) [.s 148]⟩ (.op ⟨some 150, some (146, false), .ex (.fa 0) [.s 6]⟩ (.op ⟨some 151, some (146, false), .ex (.ld 1) [.s 150]⟩ (.op ⟨some 152, some (146, false), .ex (.ibin .lss) [.s 149, .s 151]⟩ (.op ⟨some 153, none, .ex (.pick) [.s 146, .k (.bool true), .s 152]⟩ (.op ⟨some 154, none, .ex (.mov) [.s 153]⟩ (.op ⟨some 155, some (154, false), .ex (.fa 1) [.s 6]⟩ (.op ⟨some 156, some (154, false), .ex (.ld 1) [.s 155]⟩ (.op ⟨some 157, some (154, false), .ex (.mov) [.s 0]⟩ (.op ⟨some 158, some (154, false), .ex (.ia 1) [.s 157, .k (.int .i64 1)]⟩ (.op ⟨some 159, some (154, false), .ex (.ld 1) [.s 158]⟩ (.op ⟨some 160, some (154, false), .ex (.ibin .lss) [.s 156, .s 159]⟩ (.op ⟨some 161, none, .ex (.pick) [.s 154, .k (.bool true), .s 160]⟩ (.op ⟨some 162, none, .ex (.mov) [.s 161]⟩ (.op ⟨some 163, some (162, false), .ex (.mov) [.s 0]⟩ (.op ⟨some 164, some (162, false), .ex (.ia 1) [.s 163, .k (.int .i64 2)]⟩ (.op ⟨some 165, some (162, false), .ex (.ld 1) [.s 164]⟩ (.op ⟨some 166, some (162, false), .ex (.ibin .lss) [.s 165, .k (.int .u8 128)]⟩ (.op ⟨some 167, none, .ex (.pick) [.s 162, .k (.bool true), .s 166]⟩ (.op ⟨some 168, none, .ex (.mov) [.s 167]⟩ (.op ⟨some 169, some (168, false), .ex (.mov) [.s 0]⟩ (.op ⟨some 170, some (168, false), .ex (.ia 1) [.s 169, .k (.int .i64 2)]⟩ (.op ⟨some 171, some (168, false), .ex (.ld 1) [.s 170]⟩ (.op ⟨some 172, some (168, false), .ex (.ibin .lss) [.k (.int .u8 191), .s 171]⟩ (.op ⟨some 173, none, .ex (.pick) [.s 168, .k (.bool true), .s 172]⟩ (.op ⟨some 174, none, .ex (.mov) [.s 173]⟩ (.op ⟨some 175, some (174, false), .ex (.mov) [.s 0]⟩ (.op ⟨some 176, some (174, false), .ex (.ia 1) [.s 175, .k (.int .i64 3)]⟩ (.op ⟨some 177, some (174, false), .ex (.ld 1) [.s 176]⟩ (.op ⟨some 178, some (174, false), .ex (.ibin .lss) [.s 177, .k (.int .u8 128)]⟩ (.op ⟨some 179, none, .ex (.pick) [.s 174, .k (.bool true), .s 178]⟩ (.op ⟨some 180, none, .ex (.mov) [.s 179]⟩ (.op ⟨some 181, some (180, false), .ex (.mov) [.s 0]⟩ (.op ⟨some 182, some (180, false), .ex (.ia 1) [.s 181, .k (.int .i64 3)]⟩ (.op ⟨some 183, some (180, false), .ex (.ld 1) [.s 182]⟩ (.op ⟨some 184, some (180, false), .ex (.ibin .lss) [.k (.int .u8 191), .s 183]⟩ (.op ⟨some 185, none, .ex (.pick) [.s 180, .k (.bool true), .s 184]⟩ .done))))))))))))))))))))))))))))))))))))))))))))
                       (.cond (.s 185)
                        (.seq
                         (.region [⟨some 2, none, .ex (.mov) [.k (.bool false)]⟩])
                         .ret)
                        .skip))
                      (.region [⟨some 186, none, .ex (.mov) [.s 0]⟩,
                        ⟨some 187, none, .ex (.slc 1 true false false) [.s 186, .k (.int .i64 4)]⟩,
                        ⟨some 0, none, .ex (.mov) [.s 187]⟩]))
                     (.seq
                      (.region [⟨some 2, none, .ex (.mov) [.k (.bool false)]⟩])
                      .ret))))))))))))))))))
    (.seq
     (.region [⟨some 2, none, .ex (.mov) [.k (.bool true)]⟩])
     .ret)))),
 [.t 2]⟩
theorem c108 : compFn Go.Proofs.Tryd.prog 108 = some fn108 := by kernel_rfl

/-- unicode/utf8.word[[]byte] -/
def fn109 : AFn := ⟨71,
 (.seq
  (.region [⟨some 2, none, .ex (.mov) [.k (.int .u64 0)]⟩])
  (.seq
   (.cond (.k (.bool false))
    (.seq
     (.draw (.op ⟨some 3, none, .ex (.mov) [.s 0]⟩ (.op ⟨some 4, none, .ex (.ia 1) [.s 3, .k (.int .i64 0)]⟩ (.op ⟨some 5, none, .ex (.ld 1) [.s 4]⟩ (.op ⟨some 6, none, .ex (.toInt .u64) [.s 5]⟩ (.op ⟨some 7, none, .ex (.mov) [.s 0]⟩ (.op ⟨some 8, none, .ex (.ia 1) [.s 7, .k (.int .i64 1)]⟩ (.op ⟨some 9, none, .ex (.ld 1) [.s 8]⟩ (.op ⟨some 10, none, .ex (.toInt .u64) [.s 9]⟩ (.op ⟨some 11, none, .ex (.ibin .shl) [.s 10, .k (.int .u64 8)]⟩ (.op ⟨some 12, none, .ex (.ibin .or) [.s 6, .s 11]⟩ (.op ⟨some 13, none, .ex (.mov) [.s 0]⟩ (.op ⟨some 14, none, .ex (.ia 1) [.s 13, .k (.int .i64 2)]⟩ (.op ⟨some 15, none, .ex (.ld 1) [.s 14]⟩ (.op ⟨some 16, none, .ex (.toInt .u64) [.s 15]⟩ (.op ⟨some 17, none, .ex (.ibin .shl) [.s 16, .k (.int .u64 16)]⟩ (.op ⟨some 18, none, .ex (.ibin .or) [.s 12, .s 17]⟩ (.op ⟨some 19, none, .ex (.mov) [.s 0]⟩ (.op ⟨some 20, none, .ex (.ia 1) [.s 19, .k (.int .i64 3)]⟩ (.op ⟨some 21, none, .ex (.ld 1) [.s 20]⟩ (.op ⟨some 22, none, .ex (.toInt .u64) [.s 21]⟩ (.op ⟨some 23, none, .ex (.ibin .shl) [.s 22, .k (.int .u64 24)]⟩ (.op ⟨some 24, none, .ex (.ibin .or) [.s 18, .s 23]⟩ (.op ⟨some 2, none, .ex (.mov) [.s 24]⟩ .done))))))))))))))))))))))))
     .ret)
    .skip)
   (.seq
    (.draw (.op ⟨some 25, none, .ex (.mov) [.s 0]⟩ (.op ⟨some 26, none, .ex (.ia 1) [.s 25, .k (.int .i64 0)]⟩ (.op ⟨some 27, none, .ex (.ld 1) [.s 26]⟩ (.op ⟨some 28, none, .ex (.toInt .u64) [.s 27]⟩ (.op ⟨some 29, none, .ex (.mov) [.s 0]⟩ (.op ⟨some 30, none, .ex (.ia 1) [.s 29, .k (.int .i64 1)]⟩ (.op ⟨some 31, none, .ex (.ld 1) [.s 30]⟩ (.op ⟨some 32, none, .ex (.toInt .u64) [.s 31]⟩ (.op ⟨some 33, none, .ex (.ibin .shl) [.s 32, .k (.int .u64 8)]⟩ (.op ⟨some 34, none, .ex (.ibin .or) [.s 28, .s 33]⟩ (.op ⟨some 35, none, .ex (.mov) [.s 0]⟩ (.op ⟨some 36, none, .ex (.ia 1) [.s 35, .k (.int .i64 2)]⟩ (.op ⟨some 37, none, .ex (.ld 1) [.s 36]⟩ (.op ⟨some 38, none, .ex (.toInt .u64) [.s 37]⟩ (.op ⟨some 39, none, .ex (.ibin .shl) [.s 38, .k (.int .u64 16)]⟩ (.op ⟨some 40, none, .ex (.ibin .or) [.s 34, .s 39]⟩ (.op ⟨some 41, none, .ex (.mov) [.s 0]⟩ (.op ⟨some 42, none, .ex (.ia 1) [.s 41, .k (.int .i64 3)]⟩ (.op ⟨some 43, none, .ex (.ld 1) [.s 42]⟩ (.op ⟨some 44, none, .ex (.toInt .u64) [.s 43]⟩ (.op ⟨some 45, none, .ex (.ibin .shl) [.s 44, .k (.int .u64 24)]⟩ (.op ⟨some 46, none, .ex (.ibin .or) [.s 40, .s 45]⟩ (.op ⟨some 47, none, .ex (.mov) [.s 0]⟩ (.op ⟨some 48, none, .ex (.ia 1) [.s 47, .k (.int .i64 4)]⟩ (.op ⟨some 49, none, .ex (.ld 1) [.s 48]⟩ (.op ⟨some 50, none, .ex (.toInt .u64) [.s 49]⟩ (.op ⟨some 51, none, .ex (.ibin .shl) [.s 50, .k (.int .u64 32)]⟩ (.op ⟨some 52, none, .ex (.ibin .or) [.s 46, .s 51]⟩ (.op ⟨some 53, none, .ex (.mov) [.s 0]⟩ (.op ⟨some 54, none, .ex (.ia 1) [.s 53, .k (.int .i64 5)]⟩ (.op ⟨some 55, none, .ex (.ld 1) [.s 54]⟩ (.op ⟨some 56, none, .ex (.toInt .u64) [.s 55]⟩ (.op ⟨some 57, none, .ex (.ibin .shl) [.s 56, .k (.int .u64 40)]⟩ (.op ⟨some 58, none, .ex (.ibin .or) [.s 52, .s 57]⟩ (.op ⟨some 59, none, .ex (.mov) [.s 0]⟩ (.op ⟨some 60, none, .ex (.ia 1) [.s 59, .k (.int .i64 6)]⟩ (.op ⟨some 61, none, .ex (.ld 1) [.s 60]⟩ (.op ⟨some 62, none, .ex (.toInt .u64) [.s 61]⟩ (.op ⟨some 63, none, .ex (.ibin .shl) [.s 62, .k (.int .u64 48)]⟩ (.op ⟨some 64, none, .ex (.ibin .or) [.s 58, .s 63]⟩ (.op ⟨some 65, none, .ex (.mov) [.s 0]⟩ (.op ⟨some 66, none, .ex (.ia 1) [.s 65, .k (.int .i64 7)]⟩ (.op ⟨some 67, none, .ex (.ld 1) [.s 66]⟩ (.op ⟨some 68, none, .ex (.toInt .u64) [.s 67]⟩ (.op ⟨some 69, none, .ex (.ibin .shl) [.s 68, .k (.int .u64 56)]⟩ (.op ⟨some 70, none, .ex (.ibin .or) [.s 64, .s 69]⟩ (.op ⟨some 2, none, .ex (.mov) [.s 70]⟩ .done))))))))))))))))))))))))))))))))))))))))))))))))
    .ret))),
 [.t 2]⟩
theorem c109 : compFn Go.Proofs.Tryd.prog 109 = some fn109 := by kernel_rfl

end Go.Proofs.YtbadbkdpnbacnaaDoor.Fw

/- Calls that are worked out: the known answers. No condition. -/
namespace Go.Proofs.YtbadbkdpnbacnaaDoor.Fw
open Go
set_option linter.unusedSimpArgs false
set_option linter.unusedVariables false

def tblGet : List (Nat × AFn) → Nat → Option AFn
  | [], _ => none
  | p :: l, f => if f = p.1 then some p.2 else tblGet l f
theorem tblGet_ok {P : Program} : ∀ {l : List (Nat × AFn)} (_ : ∀ p ∈ l, compFn P p.1 = some p.2) {f : Nat} {af : AFn}, tblGet l f = some af → compFn P f = some af
  | [], h, f, af, e => by cases e
  | p :: l, h, f, af, e => by
    simp only [tblGet] at e
    split at e
    · rename_i hf
      have := h p (by simp)
      rw [hf, this, e]
    · exact tblGet_ok (fun q hq => h q (by simp [hq])) e
theorem tbl_nil {P : Program} : ∀ p ∈ ([] : List (Nat × AFn)), compFn P p.1 = some p.2 := fun p hp => by cases hp
theorem tbl_cons {P : Program} {n : Nat} {a : AFn} {l : List (Nat × AFn)} (h : compFn P n = some a) (k : ∀ p ∈ l, compFn P p.1 = some p.2) : ∀ p ∈ (n, a) :: l, compFn P p.1 = some p.2 := by
  intro p hp
  rcases List.mem_cons.1 hp with rfl | hp
  · exact h
  · exact k p hp

def tblL : List (Nat × AFn) := [(8, fn8), (9, fn9), (10, fn10), (11, fn11), (12, fn12), (13, fn13), (14, fn14), (24, fn24), (25, fn25), (26, fn26), (27, fn27), (28, fn28), (29, fn29), (30, fn30), (31, fn31), (38, fn38), (39, fn39), (54, fn54), (55, fn55), (56, fn56), (57, fn57), (58, fn58), (64, fn64), (75, fn75), (83, fn83), (84, fn84), (85, fn85), (86, fn86), (103, fn103), (88, fn88), (89, fn89), (104, fn104)]
theorem tblL_ok : ∀ p ∈ tblL, compFn Go.Proofs.Tryd.prog p.1 = some p.2 :=
  tbl_cons c8 (tbl_cons c9 (tbl_cons c10 (tbl_cons c11 (tbl_cons c12 (tbl_cons c13 (tbl_cons c14 (tbl_cons c24 (tbl_cons c25 (tbl_cons c26 (tbl_cons c27 (tbl_cons c28 (tbl_cons c29 (tbl_cons c30 (tbl_cons c31 (tbl_cons c38 (tbl_cons c39 (tbl_cons c54 (tbl_cons c55 (tbl_cons c56 (tbl_cons c57 (tbl_cons c58 (tbl_cons c64 (tbl_cons c75 (tbl_cons c83 (tbl_cons c84 (tbl_cons c85 (tbl_cons c86 (tbl_cons c103 (tbl_cons c88 (tbl_cons c89 (tbl_cons c104 (tbl_nil))))))))))))))))))))))))))))))))

theorem worked {k n : Nat} {f : FuncId} {vs : List V} (hvs : flatL vs = true) {c : V} (hc : c.flat = true) (h : (runFn (tblGet tblL) k n f vs H0).map (·.1) = some c) (H : Heap) : SCalls PP f vs H fun r H' => H' = H ∧ r = c :=
  SCalls.worked (fun f af => tblGet_ok tblL_ok) hvs hc h H

theorem known_calls (H : Heap) : SCalls PP 8 [] H fun r H' => H' = H ∧ r = .bool true := worked rfl rfl (k := 100) (n := 20) (by kernel_rfl) H

def flagV (b : Bool) : List V := [.int .u8 1, .int .i64 (if b then 1 else 0), .int .u64 0, .str ⟨#[]⟩]
theorem flag_calls (b : Bool) (H : Heap) : SCalls PP 88 [.bool b] H fun r H' => H' = H ∧ r = .agg (flagV b) := by
  cases b
  · exact worked rfl rfl (k := 10) (n := 5) (by kernel_rfl) H
  · exact worked rfl rfl (k := 10) (n := 5) (by kernel_rfl) H
def intV (n : Int) : List V := [.int .u8 2, .int .i64 n, .int .u64 0, .str ⟨#[]⟩]
theorem int_calls (n : Int) (H : Heap) : SCalls PP 89 [.int .i64 n] H fun r H' => H' = H ∧ r = .agg (intV n) :=
  worked rfl rfl (k := 10) (n := 5) (by kernel_rfl) H
def nanB (b : Nat) : Bool := FloatKind.f64.format.order b b != some .eq
theorem isNaN_calls (b : Nat) (H : Heap) : SCalls PP 104 [.float .f64 b] H fun r H' => H' = H ∧ r = .bool (nanB b) :=
  worked rfl rfl (k := 10) (n := 5) (by kernel_rfl) H
end Go.Proofs.YtbadbkdpnbacnaaDoor.Fw

/- What functions of the program answer: runes, form. No condition. -/
namespace Go.Proofs.YtbadbkdpnbacnaaDoor.Fw
open Go
set_option linter.unusedSimpArgs false
set_option linter.unusedVariables false

def runeOk (r : Int) : Bool := (decide (0 ≤ r) && decide (r < 55296)) || (decide (57343 < r) && decide (r ≤ 1114111))
theorem validRune_calls (r : Int) (H : Heap) : SCalls PP 64 [.int .i32 r] H fun v H' => H' = H ∧ v = .bool (runeOk r) := by
  refine SCalls.keep (R := fun v => v = .bool (runeOk r)) (SCalls.go c64 (by simp [fn64]) fun hw => ?_)
  by_cases h1 : 0 ≤ r <;> by_cases h2 : r < 55296 <;> by_cases h3 : 57343 < r <;> by_cases h4 : r ≤ 1114111 <;>
    simp only [fn64, enterFr, List.length, List.range, List.range.loop, List.zip, List.zipWith, stp, if_true, if_false, Int.reduceEq, Int.reduceLT, Int.reduceLE, Int.reduceGT, Int.reduceGE, reduceCtorEq, Nat.reduceEqDiff, List.getElem?_cons_zero, List.getElem?_cons_succ, Option.map_some, h1, h2, h3, h4, Bool.false_eq_true] <;>
    exact ⟨Ext.refl H, by simp [runeOk, h1, h2, h3, h4], rfl⟩
theorem runesMay_calls (r : Int) (H : Heap) : SCalls PP 38 [.int .i32 r] H fun v H' => H' = H ∧ v = .bool (runeOk r) := by
  refine SCalls.go c38 (by simp [fn38]) fun hw => ?_
  simp only [fn38, enterFr, List.length, List.range, List.range.loop, List.zip, List.zipWith, stp, if_true, if_false, Int.reduceEq, Int.reduceLT, Int.reduceLE, Int.reduceGT, Int.reduceGE, reduceCtorEq, Nat.reduceEqDiff, List.getElem?_cons_zero, List.getElem?_cons_succ, Option.map_some]
  refine SCalls.mono (validRune_calls r H) ?_
  rintro v H' ⟨rfl, rfl⟩
  simp only [stp, if_true, if_false, Int.reduceEq, Int.reduceLT, Int.reduceLE, Int.reduceGT, Int.reduceGE, reduceCtorEq, Nat.reduceEqDiff, List.getElem?_cons_zero, List.getElem?_cons_succ, Option.map_some]
  exact ⟨by trivial, by trivial⟩
theorem form1_calls (r : Int) (H : Heap) : SCalls PP 86 [.int .i32 r] H fun v H' => H' = H ∧ v = .bool (!runeOk r) := by
  refine SCalls.go c86 (by simp [fn86]) fun hw => ?_
  simp only [fn86, enterFr, List.length, List.range, List.range.loop, List.zip, List.zipWith, stp, if_true, if_false, Int.reduceEq, Int.reduceLT, Int.reduceLE, Int.reduceGT, Int.reduceGE, reduceCtorEq, Nat.reduceEqDiff, List.getElem?_cons_zero, List.getElem?_cons_succ, Option.map_some]
  refine SCalls.mono (runesMay_calls r H) ?_
  rintro v H' ⟨rfl, rfl⟩
  simp only [stp, if_true, if_false, Int.reduceEq, Int.reduceLT, Int.reduceLE, Int.reduceGT, Int.reduceGE, reduceCtorEq, Nat.reduceEqDiff, List.getElem?_cons_zero, List.getElem?_cons_succ, Option.map_some]
  exact ⟨by trivial, by trivial⟩

/-- Where the first rune is that may not be. -/
def badAt : Nat → List Int → Int
  | _, [] => -1
  | k, r :: rs => if runeOk r then badAt (k + 1) rs else k
theorem indexFunc_calls {x : V} {H : Heap} {rs : List Int} (hx : SL H x 1 (rs.map fun r => [V.int .i32 r])) (hl : rs.length ≤ big) :
    SCalls PP 103 [x, .fn (.func 86) [] []] H fun r H' => H' = H ∧ r = .int .i64 (badAt 0 rs) := by
  refine SCalls.keep (R := fun r => r = .int .i64 (badAt 0 rs)) (SCalls.go c103 (by simp [fn103]) fun hw => ?_)
  simp only [fn103, enterFr, List.length, List.range, List.range.loop, List.zip, List.zipWith, stp, if_true, if_false, Int.reduceEq, Int.reduceLT, Int.reduceLE, Int.reduceGT, Int.reduceGE, reduceCtorEq, Nat.reduceEqDiff, List.getElem?_cons_zero, List.getElem?_cons_succ, Option.map_some, hx.len]
  refine wp_range SCalls.scMono (by simp only [List.length_map]; unfold big at hl; omega) (fun _ : Unit => [(0, x), (1, .fn (.func 86) [] [])]) (fun k _ H' => badAt k (rs.drop k) = badAt 0 rs ∧ H' = H) () ⟨rfl, rfl⟩
    (.cons rfl (.cons rfl (.cons rfl (.cons rfl .nil)))) (by decide) (fun s => ⟨rfl, rfl, rfl⟩) ?_ ?_
  · rintro k _ H' hk ⟨hacc, rfl⟩
    rw [List.length_map] at hk
    obtain ⟨id, p, hia, hat⟩ := hx.ia (H' := H') (i := k) (e := [V.int .i32 rs[k]]) (by simp [hk]) .i64
    have l0 := hat.ld (j := 0) (v := .int .i32 rs[k]) rfl 1
    rw [Nat.add_zero] at l0
    rw [List.drop_eq_getElem_cons hk] at hacc
    simp only [badAt] at hacc
    simp only [stp, if_true, if_false, Int.reduceEq, Int.reduceLT, Int.reduceLE, Int.reduceGT, Int.reduceGE, reduceCtorEq, Nat.reduceEqDiff, List.getElem?_cons_zero, List.getElem?_cons_succ, Option.map_some, hia, l0, List.nil_append, List.append_nil]
    refine SCalls.mono (form1_calls rs[k] H') ?_
    rintro v H2 ⟨rfl, rfl⟩
    cases hr : runeOk rs[k] with
    | true =>
      rw [hr, if_pos rfl] at hacc
      simp only [stp, if_true, if_false, Int.reduceEq, Int.reduceLT, Int.reduceLE, Int.reduceGT, Int.reduceGE, reduceCtorEq, Nat.reduceEqDiff, List.getElem?_cons_zero, List.getElem?_cons_succ, Option.map_some, hr]
      exact ⟨(), ⟨hacc, by trivial⟩, .cons rfl (.cons rfl (.cons rfl (.cons rfl .nil)))⟩
    | false =>
      rw [hr, if_neg (by simp)] at hacc
      simp only [stp, if_true, if_false, Int.reduceEq, Int.reduceLT, Int.reduceLE, Int.reduceGT, Int.reduceGE, reduceCtorEq, Nat.reduceEqDiff, List.getElem?_cons_zero, List.getElem?_cons_succ, Option.map_some, hr]
      exact ⟨Ext.refl _, congrArg (V.int .i64) hacc, rfl⟩
  · rintro _ H' ⟨hacc, rfl⟩
    simp only [stp, if_true, if_false, Int.reduceEq, Int.reduceLT, Int.reduceLE, Int.reduceGT, Int.reduceGE, reduceCtorEq, Nat.reduceEqDiff, List.getElem?_cons_zero, List.getElem?_cons_succ, Option.map_some]
    rw [List.length_map, List.drop_length] at hacc
    exact ⟨Ext.refl _, by rw [← hacc]; rfl, rfl⟩
theorem containsFunc_calls {x : V} {H : Heap} {rs : List Int} (hx : SL H x 1 (rs.map fun r => [V.int .i32 r])) (hl : rs.length ≤ big) :
    SCalls PP 85 [x, .fn (.func 86) [] []] H fun r H' => H' = H ∧ r = .bool (decide (badAt 0 rs ≥ 0)) := by
  refine SCalls.go c85 (by simp [fn85]) fun hw => ?_
  simp only [fn85, enterFr, List.length, List.range, List.range.loop, List.zip, List.zipWith, stp, if_true, if_false, Int.reduceEq, Int.reduceLT, Int.reduceLE, Int.reduceGT, Int.reduceGE, reduceCtorEq, Nat.reduceEqDiff, List.getElem?_cons_zero, List.getElem?_cons_succ, Option.map_some]
  refine SCalls.mono (indexFunc_calls hx hl) ?_
  rintro v H' ⟨rfl, rfl⟩
  simp only [stp, if_true, if_false, Int.reduceEq, Int.reduceLT, Int.reduceLE, Int.reduceGT, Int.reduceGE, reduceCtorEq, Nat.reduceEqDiff, List.getElem?_cons_zero, List.getElem?_cons_succ, Option.map_some]
  exact ⟨by trivial, by trivial⟩

/-- An op's form. -/
def formO (o : OpA) : Bool :=
  let text := decide (0 < o.rs.length) || decide (0 < o.ats.length)
  if o.kind = 1 then !text
  else if o.kind = 3 then !text && decide (o.chs.length = 0)
  else if o.kind = 2 then decide (o.n = 0) && decide (o.chs.length = 0) && !decide (badAt 0 o.rs ≥ 0)
  else false
set_option maxHeartbeats 2000000 in
theorem form_calls {H : Heap} {o : OpA} (ho : o.In H) (hon : o.cells.all V.one = true) : SCalls PP 57 [.agg o.cells] H fun r H' => H' = H ∧ r = .bool (formO o) := by
  refine SCalls.keep (R := fun r => r = .bool (formO o)) (SCalls.go c57 (by simp [fn57]) fun hw => ?_)
  obtain ⟨H2, hx2, hw2, ha2, hbx⟩ := x_boxed (Ext.refl H) hw (e := o.cells) hon
  have l0 := ha2.ld (j := 0) (v := .int .u8 o.kind) rfl 1
  have l1 := ha2.ld (j := 1) (v := .int .i64 o.n) rfl 1
  have l2 := ha2.ld (j := 2) (v := o.runes) rfl 1
  have l3 := ha2.ld (j := 3) (v := o.set) rfl 1
  have l4 := ha2.ld (j := 4) (v := o.patch) rfl 1
  have ho2 := ho.ext hx2
  have n2 : exec .len [o.runes] H2 = some (.int .i64 o.rs.length, H2) := by have := ho.runes.len (H' := H2); rwa [List.length_map] at this
  have n3 : exec .len [o.set] H2 = some (.int .i64 o.ats.length, H2) := by have := ho.set.len (H' := H2); rwa [List.length_map] at this
  have n4 : exec .len [o.patch] H2 = some (.int .i64 o.chs.length, H2) := by have := ho.patch.len (H' := H2); rwa [List.length_map] at this
  have er : (0 < o.rs.length) ↔ ((o.rs.length : Int) > 0) := by omega
  have ea : (0 < o.ats.length) ↔ ((o.ats.length : Int) > 0) := by omega
  have ec : (o.chs.length = 0) ↔ ((o.chs.length : Int) = 0) := by omega
  by_cases hr : (o.rs.length : Int) > 0 <;> by_cases ha : (o.ats.length : Int) > 0 <;> by_cases k1 : o.kind = 1 <;> by_cases k3 : o.kind = 3 <;> by_cases k2 : o.kind = 2 <;> (first | omega | skip)
  all_goals by_cases n0 : o.n = 0
  all_goals by_cases c0 : (o.chs.length : Int) = 0
  all_goals
    simp only [fn57, enterFr, List.length, List.range, List.range.loop, List.zip, List.zipWith, stp, if_true, if_false, Int.reduceEq, Int.reduceLT, Int.reduceLE, Int.reduceGT, Int.reduceGE, reduceCtorEq, Nat.reduceEqDiff, List.getElem?_cons_zero, List.getElem?_cons_succ, Option.map_some, hbx, l0, l1, l2, l3, l4, n2, n3, n4, hr, ha, k1, k2, k3, n0, c0, Bool.false_eq_true]
    rw [← er] at hr
    rw [← ea] at ha
    rw [← ec] at c0
    first
      | exact ⟨hx2, by simp [formO, hr, ha, k1, k2, k3, n0, c0], rfl⟩
      | (refine SCalls.mono (containsFunc_calls ho2.runes ho.rl) ?_
         rintro v H3 ⟨rfl, rfl⟩
         simp only [stp, if_true, if_false, Int.reduceEq, Int.reduceLT, Int.reduceLE, Int.reduceGT, Int.reduceGE, reduceCtorEq, Nat.reduceEqDiff, List.getElem?_cons_zero, List.getElem?_cons_succ, Option.map_some]
         exact ⟨hx2, by simp [formO, hr, ha, k1, k2, k3, n0, c0], rfl⟩)
end Go.Proofs.YtbadbkdpnbacnaaDoor.Fw

/- What functions of the program answer: values. No condition but what utf8.Valid answers, which is a hypothesis here. -/
namespace Go.Proofs.YtbadbkdpnbacnaaDoor.Fw
open Go
set_option linter.unusedSimpArgs false
set_option linter.unusedVariables false

theorem decode_pos (s : ByteArray) (i : Nat) : 1 ≤ (Utf8.decode s i).2 := by
  unfold Utf8.decode
  simp only
  repeat' split
  all_goals simp

/-- The tables of unicode/utf8. -/
def firstT : List Int := List.replicate 128 240 ++ (List.replicate 66 241 ++ (List.replicate 30 2 ++ (19 :: (List.replicate 12 3 ++ (35 :: 3 :: 3 :: 52 :: 4 :: 4 :: 4 :: 68 :: List.replicate 11 241)))))
def accT : List Int := [128, 191, 160, 191, 128, 159, 144, 191, 128, 143, 0, 0, 0, 0, 0, 0, 0, 0, 0, 0, 0, 0, 0, 0, 0, 0, 0, 0, 0, 0, 0, 0]
/-- .. lie where they lie. -/
structure Tabs (H : Heap) : Prop where
  gn : 2 < H.gn
  first : At H 1 0 (firstT.map (V.int .u8))
  acc : At H 2 0 (accT.map (V.int .u8))
theorem Tabs.ext {H H' : Heap} (h : Tabs H) (k : Ext H H') : Tabs H' := ⟨by rw [k.gn]; exact h.gn, h.first.ext k, h.acc.ext k⟩
/-- What utf8.Valid answers at short texts. -/
def ValidIs (vU : ByteArray → Bool) : Prop := ∀ (s : ByteArray) (H : Heap) (id : Nat), Tabs H → s.size ≤ 64 → id < H.next → H.get id = some (.row false 1 (bytesV s)) → SCalls PP 108 [.slice id 0 s.size none] H fun r H' => H' = H ∧ r = .bool (vU s)

abbrev zv : List V := [.int .u8 0, .int .i64 0, .int .u64 0, .str ⟨#[]⟩]
theorem new_get (H : Heap) (o : Ob) : (H.new o).get H.next = some o := by rw [Heap.new_get, if_pos rfl]
theorem set_get' (H : Heap) (i : Nat) (o : Ob) : (H.set i o).get i = some o := by rw [Heap.set_get, if_pos rfl]
theorem at_set {H : Heap} {i : Nat} {e : List V} (hi : i < H.next) (esz : Nat) : At (H.set i (.row false esz e)) i 0 e :=
  ⟨hi, false, esz, e, set_get' _ _ _, by omega, fun j v hj => by rw [Nat.zero_add]; exact hj⟩

def floatV (b : Nat) : List V := if nanB b then [.int .u8 3, .int .i64 0, .int .u64 9221120237041090560, .str ⟨#[]⟩] else [.int .u8 3, .int .i64 0, .int .u64 b, .str ⟨#[]⟩]
theorem float_calls (b : Nat) (H : Heap) : SCalls PP 90 [.float .f64 b] H fun r H' => H' = H ∧ r = .agg (floatV b) := by
  refine SCalls.keep (R := fun v => v = .agg (floatV b)) (SCalls.go c90 (by simp [fn90]) fun hw => ?_)
  have hal : exec (.alloc zv) [] H = some (.ptr H.next 0, H.new (.row false 4 zv)) := x_alloc H zv rfl
  simp only [fn90, enterFr, List.length, List.range, List.range.loop, List.zip, List.zipWith, stp, if_true, if_false, Int.reduceEq, Int.reduceLT, Int.reduceLE, Int.reduceGT, Int.reduceGE, reduceCtorEq, Nat.reduceEqDiff, List.getElem?_cons_zero, List.getElem?_cons_succ, Option.map_some, hal]
  refine SCalls.mono (isNaN_calls b _) ?_
  rintro v H' ⟨rfl, rfl⟩
  have hx : Ext H (H.new (.row false 4 zv)) := (Ext.refl H).new _
  have hg := new_get H (.row false 4 zv)
  cases hn : nanB b with
  | true =>
    have hb : exec (.build zv [(0, 1), (2, 1)]) [.int .u8 3, .int .u64 9221120237041090560] (H.new (.row false 4 zv)) = some (.agg (floatV b), H.new (.row false 4 zv)) := by rw [floatV, hn]; rfl
    have hst := x_st (v := .agg (floatV b)) hg (n := 4) (by rw [floatV, hn]; rfl) rfl (by rw [floatV, hn]; rfl)
    have hat := at_set (H := H.new (.row false 4 zv)) (i := H.next) (e := floatV b) (Nat.lt_succ_self _) 4
    simp only [stp, if_true, if_false, Int.reduceEq, Int.reduceLT, Int.reduceLE, Int.reduceGT, Int.reduceGE, reduceCtorEq, Nat.reduceEqDiff, List.getElem?_cons_zero, List.getElem?_cons_succ, Option.map_some, hn, hb, hst]
    show kfin _ _ (evCons (cellsAt _ 4 (some (.ptr H.next 0))) (some [])) 
    rw [show (V.agg (floatV b)).cells = floatV b from rfl, hat.cells (by rw [floatV, hn]; rfl)]
    simp only [stp, if_true, if_false, Int.reduceEq, Int.reduceLT, Int.reduceLE, Int.reduceGT, Int.reduceGE, reduceCtorEq, Nat.reduceEqDiff, List.getElem?_cons_zero, List.getElem?_cons_succ, Option.map_some]
    exact ⟨hx.set (Nat.le_refl _) _, by trivial, by rw [floatV, hn]; rfl⟩
  | false =>
    have hb : exec (.build zv [(0, 1), (2, 1)]) [.int .u8 3, .int .u64 b] (H.new (.row false 4 zv)) = some (.agg (floatV b), H.new (.row false 4 zv)) := by rw [floatV, hn]; rfl
    have hst := x_st (v := .agg (floatV b)) hg (n := 4) (by rw [floatV, hn]; rfl) rfl (by rw [floatV, hn]; rfl)
    have hat := at_set (H := H.new (.row false 4 zv)) (i := H.next) (e := floatV b) (Nat.lt_succ_self _) 4
    simp only [stp, if_true, if_false, Int.reduceEq, Int.reduceLT, Int.reduceLE, Int.reduceGT, Int.reduceGE, reduceCtorEq, Nat.reduceEqDiff, List.getElem?_cons_zero, List.getElem?_cons_succ, Option.map_some, hn, hb, hst]
    show kfin _ _ (evCons (cellsAt _ 4 (some (.ptr H.next 0))) (some []))
    rw [show (V.agg (floatV b)).cells = floatV b from rfl, hat.cells (by rw [floatV, hn]; rfl)]
    simp only [stp, if_true, if_false, Int.reduceEq, Int.reduceLT, Int.reduceLE, Int.reduceGT, Int.reduceGE, reduceCtorEq, Nat.reduceEqDiff, List.getElem?_cons_zero, List.getElem?_cons_succ, Option.map_some]
    exact ⟨hx.set (Nat.le_refl _) _, by trivial, by rw [floatV, hn]; rfl⟩
end Go.Proofs.YtbadbkdpnbacnaaDoor.Fw

/- What functions of the program answer: texts, and which values may be. No condition but what utf8.Valid answers, which is a hypothesis here. -/
namespace Go.Proofs.YtbadbkdpnbacnaaDoor.Fw
open Go
set_option linter.unusedSimpArgs false
set_option linter.unusedVariables false

theorem bytesV_length (s : ByteArray) : (bytesV s).length = s.size := by simp [bytesV]
theorem bytesV_all (s : ByteArray) : (bytesV s).all V.one = true := by
  rw [List.all_eq_true]
  intro v hv
  obtain ⟨b, _, rfl⟩ := List.mem_map.1 hv
  rfl
theorem bytesL_bytesV : ∀ (l : List UInt8), bytesL (l.map fun b => V.int .u8 b.toNat) = some l := by
  intro l
  induction l with
  | nil => rfl
  | cons b l ih =>
    have hb : byteOf (V.int .u8 b.toNat) = some b := by
      have := b.toNat_lt
      simp only [byteOf]
      simp
      try omega
    simp only [List.map_cons, bytesL, hb, ih]

theorem decode_le (s : ByteArray) (i : Nat) : (Utf8.decode s i).2 ≤ 4 := by
  unfold Utf8.decode
  simp only
  repeat' split
  all_goals simp

variable {vU : ByteArray → Bool}

theorem read_calls (hU : ValidIs vU) (s : ByteArray) (H : Heap) (id : Nat) (hT : Tabs H) (hs : s.size ≤ 64) (hid : id < H.next) (hg : H.get id = some (.row false 1 (bytesV s))) :
    SCalls PP 106 [.slice id 0 s.size none] H fun r H' => (∃ x, r = .tup [x, .int .i64 (if vU s then 0 else 3)]) ∧ Ext H H' ∧ WF H' := by
  refine SCalls.go c106 (by simp [fn106]) fun hw => ?_
  simp only [fn106, enterFr, List.length, List.range, List.range.loop, List.zip, List.zipWith, stp, if_true, if_false, Int.reduceEq, Int.reduceLT, Int.reduceLE, Int.reduceGT, Int.reduceGE, reduceCtorEq, Nat.reduceEqDiff, List.getElem?_cons_zero, List.getElem?_cons_succ, Option.map_some]
  refine SCalls.mono (hU s H id hT hs hid hg) ?_
  rintro v H' ⟨rfl, rfl⟩
  cases hv : vU s with
  | false =>
    simp only [stp, if_true, if_false, Int.reduceEq, Int.reduceLT, Int.reduceLE, Int.reduceGT, Int.reduceGE, reduceCtorEq, Nat.reduceEqDiff, List.getElem?_cons_zero, List.getElem?_cons_succ, Option.map_some, hv]
    exact ⟨⟨_, rfl⟩, Ext.refl _, hw⟩
  | true =>
    have hbs : exec .b2s [.slice id 0 s.size none] H' = some (.str s, H') := by
      by_cases hs0 : s.size = 0
      · have : s = ⟨#[]⟩ := by
          obtain ⟨d⟩ := s
          have : d.size = 0 := hs0
          rw [Array.eq_empty_of_size_eq_zero this]
        subst this
        rfl
      simp only [exec, lenV, readN, hg]
      rw [if_neg hs0, if_pos (by rw [bytesV_length]; omega)]
      have e : ((bytesV s).drop 0).take s.size = bytesV s := by rw [List.drop_zero, ← bytesV_length s, List.take_length]
      simp only [e]
      rw [bytesV, bytesL_bytesV]
      simp
    have hri : exec .rits [.str s] H' = some (.ptr H'.next 0, H'.new (.iter s 0)) := rfl
    simp only [stp, if_true, if_false, Int.reduceEq, Int.reduceLT, Int.reduceLE, Int.reduceGT, Int.reduceGE, reduceCtorEq, Nat.reduceEqDiff, List.getElem?_cons_zero, List.getElem?_cons_succ, Option.map_some, hv, hbs, hri]
    refine wp_loopI (fun k fr G => ∃ pos l, k = s.size - pos ∧ Ext H' G ∧ WF G ∧ H'.next < G.next ∧ G.get H'.next = some (.iter s pos) ∧ pos ≤ s.size + 4 ∧
      (l = .nils ∨ ∃ i cells, l = .slice i 0 cells.length none ∧ H'.next < i ∧ i < G.next ∧ G.get i = some (.row false 1 cells) ∧ cells.all V.one = true ∧ cells.length ≤ pos) ∧
      FrSub [(4, l), (12, .ptr H'.next 0)] fr) s.size ⟨0, .nils, rfl, (Ext.refl H').new _, hw.new _, Nat.lt_succ_self _, new_get _ _, by omega, .inl rfl, .cons rfl (.cons rfl .nil)⟩ ?_
    rintro k fr G ⟨pos, l, rfl, hext, hwf, hlt, hit, hpos, hl, hsub⟩
    refine ⟨_, hsub, ?_⟩
    by_cases hp : pos < s.size
    · have hrn : exec .rnext [.ptr H'.next 0] G = some (.tup [.bool true, .int .i64 pos, .int .i32 (Utf8.decode s pos).1], G.set H'.next (.iter s (pos + (Utf8.decode s pos).2))) := by
        simp only [exec, hit]
        rw [if_pos hp]
      have hdp := decode_pos s pos
      have hd4 : (Utf8.decode s pos).2 ≤ 4 := decode_le s pos
      generalize hdd : (Utf8.decode s pos).2 = dw at hrn hdp hd4
      generalize hcc : ((Utf8.decode s pos).1 : Int) = cc at hrn
      generalize hG2 : G.set H'.next (.iter s (pos + dw)) = G2 at hrn
      have hx2 : Ext H' G2 := by rw [← hG2]; exact hext.set (Nat.le_refl _) _
      have hw2 : WF G2 := by rw [← hG2]; exact hwf.set hit _
      have hn2 : G2.next = G.next := by rw [← hG2]; rfl
      have hit2 : G2.get H'.next = some (.iter s (pos + dw)) := by rw [← hG2]; exact set_get' _ _ _
      have hbsl : exec (.bsl 1 1 [.int .i32 0] [(0, 1)]) [.int .i32 cc] G2 = some (.slice G2.next 0 1 (some 1), G2.new (.row false 1 [.int .i32 cc])) := rfl
      have hgn : (G2.new (.row false 1 [.int .i32 cc])).get G2.next = some (.row false 1 [.int .i32 cc]) := new_get _ _
      have hsrc : srcCells (G2.new (.row false 1 [.int .i32 cc])) 1 1 (.slice G2.next 0 1 (some 1)) = some [.int .i32 cc] := by
        simp only [srcCells, readN, hgn]
        rfl
      have hit3 : (G2.new (.row false 1 [.int .i32 cc])).get H'.next = some (.iter s (pos + dw)) := hw2.get_new hit2 _
      rcases hl with rfl | ⟨i, cells, rfl, hi1, hi2, hi3, hi4, hi5⟩
      · have happ := x_app_nil (H := G2.new (.row false 1 [.int .i32 cc])) (x := .slice G2.next 0 1 (some 1)) (bytes := 4) rfl hsrc rfl rfl (by omega) (by omega) (by omega) (by omega)
        simp only [stp, if_true, if_false, Int.reduceEq, Int.reduceLT, Int.reduceLE, Int.reduceGT, Int.reduceGE, reduceCtorEq, Nat.reduceEqDiff, List.getElem?_cons_zero, List.getElem?_cons_succ, Option.map_some, hrn, List.getElem?_cons_zero, List.getElem?_cons_succ, Option.map_some, hbsl, happ]
        refine ⟨s.size - (pos + dw), by omega, pos + dw, _, rfl, (hx2.new _).new _, (hw2.new _).new _, ?_, (hw2.new _).get_new hit3 _, by omega, .inr ⟨_, [.int .i32 cc], rfl, ?_, Nat.lt_succ_self _, new_get _ _, rfl, by simp only [List.length_cons, List.length_nil]; omega⟩, .cons rfl (.cons rfl .nil)⟩
        · simp only [Heap.new_next]; omega
        · simp only [Heap.new_next]; omega
      · have hi3' : (G2.new (.row false 1 [.int .i32 cc])).get i = some (.row false 1 cells) := by
          refine hw2.get_new ?_ _
          rw [← hG2, Heap.set_get, if_neg (by omega)]; exact hi3
        have happ := x_app_own (H := G2.new (.row false 1 [.int .i32 cc])) (x := .slice G2.next 0 1 (some 1)) (bytes := 4) hi3' (by rw [Nat.mul_one]) hi4 rfl hsrc rfl rfl (by omega) (by omega) (by omega) (by omega)
        simp only [stp, if_true, if_false, Int.reduceEq, Int.reduceLT, Int.reduceLE, Int.reduceGT, Int.reduceGE, reduceCtorEq, Nat.reduceEqDiff, List.getElem?_cons_zero, List.getElem?_cons_succ, Option.map_some, hrn, List.getElem?_cons_zero, List.getElem?_cons_succ, Option.map_some, hbsl, happ]
        refine ⟨s.size - (pos + dw), by omega, pos + dw, _, rfl, ((hx2.new _).kill (by omega)).new _, ((hw2.new _).kill _).new _, ?_, ?_, by omega, .inr ⟨_, cells ++ [.int .i32 cc], by simp, ?_, Nat.lt_succ_self _, new_get _ _, by simp [hi4, V.one], by simp only [List.length_append, List.length_cons, List.length_nil]; omega⟩, .cons rfl (.cons rfl .nil)⟩
        · simp only [Heap.new_next, Heap.kill_next]; omega
        · refine ((hw2.new _).kill _).get_new ?_ _
          rw [Heap.kill_get, if_neg (by omega)]; exact hit3
        · simp only [Heap.new_next, Heap.kill_next]; omega
    · have hrn : exec .rnext [.ptr H'.next 0] G = some (.tup [.bool false], G) := by
        simp only [exec, hit]
        rw [if_neg hp]
      simp only [stp, if_true, if_false, Int.reduceEq, Int.reduceLT, Int.reduceLE, Int.reduceGT, Int.reduceGE, reduceCtorEq, Nat.reduceEqDiff, List.getElem?_cons_zero, List.getElem?_cons_succ, Option.map_some, hrn, List.getElem?_cons_zero, Option.map_some]
      exact ⟨⟨_, rfl⟩, hext, hwf⟩
end Go.Proofs.YtbadbkdpnbacnaaDoor.Fw

/- What functions of the program answer: which values may be. No condition but what utf8.Valid answers, which is a hypothesis here. -/
namespace Go.Proofs.YtbadbkdpnbacnaaDoor.Fw
open Go
set_option linter.unusedSimpArgs false
set_option linter.unusedVariables false
variable {vU : ByteArray → Bool}

def textE (vU : ByteArray → Bool) (s : ByteArray) : Int := if s.size > 64 then 3 else if vU s then 0 else 3
def textV (vU : ByteArray → Bool) (s : ByteArray) : List V := if s.size > 64 then zv else if vU s then [.int .u8 4, .int .i64 0, .int .u64 0, .str s] else zv
theorem text_calls (hU : ValidIs vU) (s : ByteArray) (H : Heap) (hT : Tabs H) : SCalls PP 92 [.str s] H fun r H' => H' = H ∧ r = .tup [.agg (textV vU s), .int .i64 (textE vU s)] := by
  refine SCalls.keep (R := fun v => v = .tup [.agg (textV vU s), .int .i64 (textE vU s)]) (SCalls.go c92 (by simp [fn92]) fun hw => ?_)
  have hal : exec (.alloc zv) [] H = some (.ptr H.next 0, H.new (.row false 4 zv)) := x_alloc H zv rfl
  have hx1 : Ext H (H.new (.row false 4 zv)) := (Ext.refl H).new _
  have hw1 : WF (H.new (.row false 4 zv)) := hw.new _
  have hg1 := new_get H (.row false 4 zv)
  have hn1 : (H.new (.row false 4 zv)).next = H.next + 1 := rfl
  have hz : ∀ G, exec (.build zv []) [] G = some (.agg zv, G) := fun G => rfl
  have hv : ∀ G, exec (.build zv [(0, 1), (3, 1)]) [.int .u8 4, .str s] G = some (.agg [.int .u8 4, .int .i64 0, .int .u64 0, .str s], G) := fun G => rfl
  have fin : ∀ (G : Heap) (e : List V), Ext H G → H.next < G.next → e.length = 4 → e.all V.one = true → flatL e = true → G.get H.next = some (.row false 4 zv) → exec (.st 4) [.ptr H.next 0, .agg e] G = some (.undef, G.set H.next (.row false 4 e)) ∧ Ext H (G.set H.next (.row false 4 e)) ∧
      cellsAt (G.set H.next (.row false 4 e)) 4 (some (.ptr H.next 0)) = some (.agg e) := fun G e hx hlt hl ho hf hg =>
    ⟨x_st (v := .agg e) hg hl rfl ho, hx.set (Nat.le_refl _) _, (at_set (H := G) hlt 4).cells hl.symm⟩
  generalize hG : H.new (.row false 4 zv) = G1 at *
  by_cases h1 : (s.size : Int) > 64
  · have h1' : s.size > 64 := by omega
    obtain ⟨f1, f2, f3⟩ := fin G1 zv hx1 (by omega) rfl rfl rfl hg1
    simp only [fn92, enterFr, List.length, List.range, List.range.loop, List.zip, List.zipWith, stp, if_true, if_false, Int.reduceEq, Int.reduceLT, Int.reduceLE, Int.reduceGT, Int.reduceGE, reduceCtorEq, Nat.reduceEqDiff, List.getElem?_cons_zero, List.getElem?_cons_succ, Option.map_some, hal, hz, h1, f1, f3]
    exact ⟨f2, by simp [textV, textE, h1'], rfl⟩
  · have h1' : ¬ s.size > 64 := by omega
    have hsb : exec .s2b [.str s] G1 = some (.slice G1.next 0 s.size none, G1.new (.row false 1 (bytesV s))) := rfl
    simp only [fn92, enterFr, List.length, List.range, List.range.loop, List.zip, List.zipWith, stp, if_true, if_false, Int.reduceEq, Int.reduceLT, Int.reduceLE, Int.reduceGT, Int.reduceGE, reduceCtorEq, Nat.reduceEqDiff, List.getElem?_cons_zero, List.getElem?_cons_succ, Option.map_some, hal, hz, h1, hsb]
    refine SCalls.mono (read_calls hU s (G1.new (.row false 1 (bytesV s))) G1.next (hT.ext (hx1.new _)) (by omega) (Nat.lt_succ_self _) (new_get _ _)) ?_
    rintro r H3 ⟨⟨x, rfl⟩, hx3, hw3⟩
    have hg3 : H3.get H.next = some (.row false 4 zv) := by
      rw [hx3.get _ (by simp only [Heap.new_next]; omega)]
      exact hw1.get_new hg1 _
    have hxx : Ext H H3 := (hx1.new _).trans hx3
    have hlt3 : H.next < H3.next := by have := hx3.next; simp only [Heap.new_next] at this; omega
    cases hu : vU s with
    | true =>
      obtain ⟨f1, f2, f3⟩ := fin H3 [.int .u8 4, .int .i64 0, .int .u64 0, .str s] hxx hlt3 rfl rfl rfl hg3
      simp only [stp, if_true, if_false, Int.reduceEq, Int.reduceLT, Int.reduceLE, Int.reduceGT, Int.reduceGE, reduceCtorEq, Nat.reduceEqDiff, List.getElem?_cons_zero, List.getElem?_cons_succ, Option.map_some, hu, hz, hv, f1, f3]
      exact ⟨f2, by simp [textV, textE, h1', hu], rfl⟩
    | false =>
      obtain ⟨f1, f2, f3⟩ := fin H3 zv hxx hlt3 rfl rfl rfl hg3
      simp only [stp, if_true, if_false, Int.reduceEq, Int.reduceLT, Int.reduceLE, Int.reduceGT, Int.reduceGE, reduceCtorEq, Nat.reduceEqDiff, List.getElem?_cons_zero, List.getElem?_cons_succ, Option.map_some, hu, hz, hv, f1, f3, Bool.false_eq_true]
      exact ⟨f2, by simp [textV, textE, h1', hu], rfl⟩

def same4 (a b : List V) : Bool := (sameL [0, 0, 0, 2] a b).getD false
def vMay (vU : ByteArray → Bool) (v : ValA) : Bool :=
  if v.kind = 1 then same4 v.cells (flagV (decide (v.n = 1)))
  else if v.kind = 2 then same4 v.cells (intV v.n)
  else if v.kind = 3 then same4 v.cells (floatV v.f.toNat)
  else if v.kind = 4 then decide (textE vU v.s = 0) && same4 v.cells (textV vU v.s)
  else false
theorem same4_some (v : ValA) {k : Int} {n f : Int} {s : ByteArray} (H : Heap) : exec (.eqagg false [0, 0, 0, 2]) [.agg v.cells, .agg [.int .u8 k, .int .i64 n, .int .u64 f, .str s]] H = some (.bool (same4 v.cells [.int .u8 k, .int .i64 n, .int .u64 f, .str s]), H) := by
  simp only [exec, same4, ValA.cells, sameL, V.sameK, if_true, Option.map_some, Option.getD_some, Bool.bne_false]
theorem valueMay_calls (hU : ValidIs vU) (v : ValA) (H : Heap) (hT : Tabs H) : SCalls PP 65 [.agg v.cells] H fun r H' => H' = H ∧ r = .bool (vMay vU v) := by
  refine SCalls.keep (R := fun r => r = .bool (vMay vU v)) (SCalls.go c65 (by simp [fn65]) fun hw => ?_)
  obtain ⟨H2, hx2, hw2, ha2, hbx⟩ := x_boxed (Ext.refl H) hw (e := v.cells) rfl
  have l0 := ha2.ld (j := 0) (v := .int .u8 v.kind) rfl 1
  have l1 := ha2.ld (j := 1) (v := .int .i64 v.n) rfl 1
  have l2 := ha2.ld (j := 2) (v := .int .u64 v.f) rfl 1
  have l3 := ha2.ld (j := 3) (v := .str v.s) rfl 1
  have la := ha2.lda (n := 4) rfl
  have q1 : ∀ b, exec (.eqagg false [0, 0, 0, 2]) [.agg v.cells, .agg (flagV b)] H2 = some (.bool (same4 v.cells (flagV b)), H2) := fun b => same4_some v H2
  have q2 : ∀ n, exec (.eqagg false [0, 0, 0, 2]) [.agg v.cells, .agg (intV n)] H2 = some (.bool (same4 v.cells (intV n)), H2) := fun b => same4_some v H2
  have q3 : ∀ b, exec (.eqagg false [0, 0, 0, 2]) [.agg v.cells, .agg (floatV b)] H2 = some (.bool (same4 v.cells (floatV b)), H2) := fun b => by unfold floatV; split <;> exact same4_some v H2
  by_cases k1 : v.kind = 1
  · simp only [fn65, enterFr, List.length, List.range, List.range.loop, List.zip, List.zipWith, stp, if_true, if_false, Int.reduceEq, Int.reduceLT, Int.reduceLE, Int.reduceGT, Int.reduceGE, reduceCtorEq, Nat.reduceEqDiff, List.getElem?_cons_zero, List.getElem?_cons_succ, Option.map_some, hbx, l0, l1, la, k1]
    constructor
    · refine SCalls.mono (flag_calls _ H2) ?_
      rintro r H3 ⟨rfl, rfl⟩
      simp only [stp, if_true, if_false, Int.reduceEq, Int.reduceLT, Int.reduceLE, Int.reduceGT, Int.reduceGE, reduceCtorEq, Nat.reduceEqDiff, List.getElem?_cons_zero, List.getElem?_cons_succ, Option.map_some, q1]
      exact ⟨hx2, by simp [vMay, k1], rfl⟩
    · refine SCalls.mono (flag_calls _ H2) ?_
      rintro r H3 ⟨rfl, rfl⟩
      simp only [stp, if_true, if_false, Int.reduceEq, Int.reduceLT, Int.reduceLE, Int.reduceGT, Int.reduceGE, reduceCtorEq, Nat.reduceEqDiff, List.getElem?_cons_zero, List.getElem?_cons_succ, Option.map_some, la, q1]
      exact ⟨hx2, by simp [vMay, k1], rfl⟩
  by_cases k2 : v.kind = 2
  · simp only [fn65, enterFr, List.length, List.range, List.range.loop, List.zip, List.zipWith, stp, if_true, if_false, Int.reduceEq, Int.reduceLT, Int.reduceLE, Int.reduceGT, Int.reduceGE, reduceCtorEq, Nat.reduceEqDiff, List.getElem?_cons_zero, List.getElem?_cons_succ, Option.map_some, hbx, l0, l1, la, k2]
    constructor
    · refine SCalls.mono (int_calls _ H2) ?_
      rintro r H3 ⟨rfl, rfl⟩
      simp only [stp, if_true, if_false, Int.reduceEq, Int.reduceLT, Int.reduceLE, Int.reduceGT, Int.reduceGE, reduceCtorEq, Nat.reduceEqDiff, List.getElem?_cons_zero, List.getElem?_cons_succ, Option.map_some, q2]
      exact ⟨hx2, by simp [vMay, k2], rfl⟩
    · refine SCalls.mono (int_calls _ H2) ?_
      rintro r H3 ⟨rfl, rfl⟩
      simp only [stp, if_true, if_false, Int.reduceEq, Int.reduceLT, Int.reduceLE, Int.reduceGT, Int.reduceGE, reduceCtorEq, Nat.reduceEqDiff, List.getElem?_cons_zero, List.getElem?_cons_succ, Option.map_some, la, q2]
      exact ⟨hx2, by simp [vMay, k2], rfl⟩
  by_cases k3 : v.kind = 3
  · simp only [fn65, enterFr, List.length, List.range, List.range.loop, List.zip, List.zipWith, stp, if_true, if_false, Int.reduceEq, Int.reduceLT, Int.reduceLE, Int.reduceGT, Int.reduceGE, reduceCtorEq, Nat.reduceEqDiff, List.getElem?_cons_zero, List.getElem?_cons_succ, Option.map_some, hbx, l0, l2, la, k3]
    constructor
    · refine SCalls.mono (float_calls _ H2) ?_
      rintro r H3 ⟨rfl, rfl⟩
      simp only [stp, if_true, if_false, Int.reduceEq, Int.reduceLT, Int.reduceLE, Int.reduceGT, Int.reduceGE, reduceCtorEq, Nat.reduceEqDiff, List.getElem?_cons_zero, List.getElem?_cons_succ, Option.map_some, q3]
      exact ⟨hx2, by simp [vMay, k3], rfl⟩
    · refine SCalls.mono (float_calls _ H2) ?_
      rintro r H3 ⟨rfl, rfl⟩
      simp only [stp, if_true, if_false, Int.reduceEq, Int.reduceLT, Int.reduceLE, Int.reduceGT, Int.reduceGE, reduceCtorEq, Nat.reduceEqDiff, List.getElem?_cons_zero, List.getElem?_cons_succ, Option.map_some, la, q3]
      exact ⟨hx2, by simp [vMay, k3], rfl⟩
  by_cases k4 : v.kind = 4
  · simp only [fn65, enterFr, List.length, List.range, List.range.loop, List.zip, List.zipWith, stp, if_true, if_false, Int.reduceEq, Int.reduceLT, Int.reduceLE, Int.reduceGT, Int.reduceGE, reduceCtorEq, Nat.reduceEqDiff, List.getElem?_cons_zero, List.getElem?_cons_succ, Option.map_some, hbx, l0, l3, la, k4]
    refine SCalls.mono (text_calls hU _ H2 (hT.ext hx2)) ?_
    rintro r H3 ⟨rfl, rfl⟩
    have htl : (textV vU v.s).length = 4 ∧ (textV vU v.s).all V.one = true := by
      unfold textV; split
      · exact ⟨rfl, rfl⟩
      · split <;> exact ⟨rfl, rfl⟩
    obtain ⟨H4, hx4, hw4, ha4, hal, hst⟩ := x_copy (Ext.refl H3) hw2 (z := zv) (e := textV vU v.s) (n := 4) rfl rfl htl.1 htl.2
    have la4 := (ha2.ext hx4).lda (n := 4) rfl
    have lb4 := ha4.lda (n := 4) htl.1.symm
    have q4 : exec (.eqagg false [0, 0, 0, 2]) [.agg v.cells, .agg (textV vU v.s)] H4 = some (.bool (same4 v.cells (textV vU v.s)), H4) := by
      unfold textV
      split
      · exact same4_some v H4
      · split <;> exact same4_some v H4
    by_cases he : textE vU v.s = 0
    · simp only [stp, if_true, if_false, Int.reduceEq, Int.reduceLT, Int.reduceLE, Int.reduceGT, Int.reduceGE, reduceCtorEq, Nat.reduceEqDiff, List.getElem?_cons_zero, List.getElem?_cons_succ, Option.map_some, hal, hst, he, la4, lb4, q4]
      exact ⟨hx2.trans hx4, by simp [vMay, k4, he], rfl⟩
    · simp only [stp, if_true, if_false, Int.reduceEq, Int.reduceLT, Int.reduceLE, Int.reduceGT, Int.reduceGE, reduceCtorEq, Nat.reduceEqDiff, List.getElem?_cons_zero, List.getElem?_cons_succ, Option.map_some, hal, hst, he]
      exact ⟨hx2.trans hx4, by simp [vMay, k4, he], rfl⟩
  · simp only [fn65, enterFr, List.length, List.range, List.range.loop, List.zip, List.zipWith, stp, if_true, if_false, Int.reduceEq, Int.reduceLT, Int.reduceLE, Int.reduceGT, Int.reduceGE, reduceCtorEq, Nat.reduceEqDiff, List.getElem?_cons_zero, List.getElem?_cons_succ, Option.map_some, hbx, l0, k1, k2, k3, k4]
    exact ⟨hx2, by simp [vMay, k1, k2, k3, k4], rfl⟩
end Go.Proofs.YtbadbkdpnbacnaaDoor.Fw

/- What functions of the program answer: a schema's keys. No condition but what utf8.Valid answers, which is a hypothesis here. -/
namespace Go.Proofs.YtbadbkdpnbacnaaDoor.Fw
open Go
set_option linter.unusedSimpArgs false
set_option linter.unusedVariables false
variable {vU : ByteArray → Bool}

structure KeyA where
  id : Int
  block : Bool
  kind : Int
  after : Bool
  before : Bool
  group : Int
def KeyA.cells (k : KeyA) : List V := [.int .i64 k.id, .bool k.block, .int .u8 k.kind, .bool k.after, .bool k.before, .int .i64 k.group]
def zeroK : KeyA := ⟨0, false, 0, false, false, 0⟩
abbrev zk : List V := [.int .i64 0, .bool false, .int .u8 0, .bool false, .bool false, .int .i64 0]
/-- A schema as it lies: a pair of a slice and a map of its keys. -/
structure Sch (H : Heap) (s : V) (ks : List KeyA) : Prop where
  is : ∃ p sl mid, s = .ptr p 0 ∧ At H p 0 [sl, .map mid] ∧ mid < H.next ∧ H.get mid = some (.mapo (ks.map fun k => (.int .i64 k.id, .agg k.cells)))
theorem Sch.ext {H H' : Heap} {s : V} {ks : List KeyA} (h : Sch H s ks) (k : Ext H H') : Sch H' s ks := by
  obtain ⟨p, sl, mid, h1, h2, h3, h4⟩ := h.is
  exact ⟨p, sl, mid, h1, h2.ext k, Nat.lt_of_lt_of_le h3 k.next, by rw [k.get mid h3]; exact h4⟩
def findK (ks : List KeyA) (id : Int) : Option KeyA := ks.find? fun k => id == k.id
def foundC (ks : List KeyA) (id : Int) : List V := ((findK ks id).getD zeroK).cells

theorem find_map (id : Int) : ∀ (ks : List KeyA), match findE 0 (.int .i64 id) (ks.map fun k => (V.int .i64 k.id, V.agg k.cells)) with
    | some none => findK ks id = none
    | some (some i) => ∃ k, findK ks id = some k ∧ (ks.map fun k => (V.int .i64 k.id, V.agg k.cells))[i]? = some (.int .i64 k.id, .agg k.cells)
    | none => False
  | [] => by simp [findE, findK]
  | k :: ks => by
    have ih := find_map id ks
    simp only [List.map_cons, findE, V.sameK, if_true]
    cases hb : id == k.id with
    | true =>
      simp only
      exact ⟨k, by simp [findK, hb], rfl⟩
    | false =>
      simp only
      cases hf : findE 0 (.int .i64 id) (ks.map fun k => (V.int .i64 k.id, V.agg k.cells)) with
      | none => rw [hf] at ih; exact ih.elim
      | some o =>
        rw [hf] at ih
        cases o with
        | none => simp only [Option.map_some, Option.map_none] at ih ⊢; simpa [findK, hb] using ih
        | some i =>
          simp only [Option.map_some] at ih ⊢
          obtain ⟨k', h1, h2⟩ := ih
          exact ⟨k', by simpa [findK, hb] using h1, by simpa using h2⟩

theorem look_eq {H : Heap} {mid : Nat} {ks : List KeyA} (h : H.get mid = some (.mapo (ks.map fun k => (.int .i64 k.id, .agg k.cells)))) (id : Int) :
    exec (.look 0 (.agg zk) true) [.map mid, .int .i64 id] H = some (.tup [.agg (foundC ks id), .bool (findK ks id).isSome], H) := by
  have := find_map id ks
  simp only [exec, h, keyOk, if_true]
  cases hf : findE 0 (.int .i64 id) (ks.map fun k => (V.int .i64 k.id, V.agg k.cells)) with
  | none => rw [hf] at this; exact this.elim
  | some o =>
    rw [hf] at this
    cases o with
    | none =>
      simp only at this ⊢
      simp only [foundC, this, Option.getD_none, Option.isSome_none]
      try rfl
    | some i =>
      simp only at this ⊢
      obtain ⟨k, h1, h2⟩ := this
      rw [h2]
      simp only [Option.map_some, foundC, h1, Option.getD_some, Option.isSome_some]
      try rfl

theorem foundC_ok (ks : List KeyA) (id : Int) : (foundC ks id).length = 6 ∧ (foundC ks id).all V.one = true ∧ flatL (foundC ks id) = true := ⟨rfl, rfl, rfl⟩

theorem find_calls {s : V} {H : Heap} {ks : List KeyA} (hs : Sch H s ks) (id : Int) : SCalls PP 62 [s, .int .i64 id] H fun r H' => H' = H ∧ r = .tup [.agg (foundC ks id), .bool (findK ks id).isSome] := by
  refine SCalls.keep (R := fun r => r = .tup [.agg (foundC ks id), .bool (findK ks id).isSome]) (SCalls.go c62 (by simp [fn62]) fun hw => ?_)
  obtain ⟨p, sl, mid, rfl, hat, hm, hg⟩ := hs.is
  have hal : exec (.alloc zk) [] H = some (.ptr H.next 0, H.new (.row false 6 zk)) := x_alloc H zk rfl
  have hx1 : Ext H (H.new (.row false 6 zk)) := (Ext.refl H).new _
  have hw1 : WF (H.new (.row false 6 zk)) := hw.new _
  have hg1 := new_get H (.row false 6 zk)
  have hn1 : (H.new (.row false 6 zk)).next = H.next + 1 := rfl
  generalize hG : H.new (.row false 6 zk) = G1 at *
  have hnil : exec (.eqnil 0 false) [.ptr p 0, .nilp] G1 = some (.bool false, G1) := rfl
  have ld1 := (hat.ext hx1).ld (j := 1) (v := .map mid) rfl 1
  have hlk := look_eq (H := G1) (by rw [hx1.get mid hm]; exact hg) id
  obtain ⟨H2, hx2, hw2, ha2, hal2, hst2⟩ := x_copy (Ext.refl G1) hw1 (z := zk) (e := foundC ks id) (n := 6) rfl rfl rfl rfl
  have la := ha2.lda (n := 6) rfl
  have hg2 : H2.get H.next = some (.row false 6 zk) := by rw [hx2.get _ (by omega)]; exact hg1
  have hst3 := x_st (v := .agg (foundC ks id)) hg2 (n := 6) rfl rfl rfl
  have hlt2 : H.next < H2.next := by have := hx2.next; omega
  have hat3 := at_set (H := H2) (i := H.next) (e := foundC ks id) hlt2 6
  have hce := hat3.cells (n := 6) rfl
  have hcl : (V.agg (foundC ks id)).cells = foundC ks id := rfl
  rw [hcl] at hst3
  simp only [fn62, enterFr, List.length, List.range, List.range.loop, List.zip, List.zipWith, stp, if_true, if_false, Int.reduceEq, Int.reduceLT, Int.reduceLE, Int.reduceGT, Int.reduceGE, reduceCtorEq, Nat.reduceEqDiff, List.getElem?_cons_zero, List.getElem?_cons_succ, Option.map_some, hal, hnil, ld1, hlk, hal2, hst2, la, hst3, hce]
  exact ⟨(hx1.trans hx2).set (Nat.le_refl _) _, by trivial, rfl⟩

def fitsK (vU : ByteArray → Bool) (ks : List KeyA) (id : Int) (v : ValA) : Bool := (findK ks id).isSome && decide (((findK ks id).getD zeroK).kind = v.kind) && vMay vU v
theorem sfits_calls (hU : ValidIs vU) {s : V} {H : Heap} {ks : List KeyA} (hT : Tabs H) (hs : Sch H s ks) (id : Int) (v : ValA) : SCalls PP 66 [s, .int .i64 id, .agg v.cells] H fun r H' => H' = H ∧ r = .bool (fitsK vU ks id v) := by
  refine SCalls.keep (R := fun r => r = .bool (fitsK vU ks id v)) (SCalls.go c66 (by simp [fn66]) fun hw => ?_)
  obtain ⟨H2, hx2, hw2, ha2, hbx⟩ := x_boxed (Ext.refl H) hw (e := v.cells) rfl
  simp only [fn66, enterFr, List.length, List.range, List.range.loop, List.zip, List.zipWith, stp, if_true, if_false, Int.reduceEq, Int.reduceLT, Int.reduceLE, Int.reduceGT, Int.reduceGE, reduceCtorEq, Nat.reduceEqDiff, List.getElem?_cons_zero, List.getElem?_cons_succ, Option.map_some, hbx]
  refine SCalls.mono (find_calls (hs.ext hx2) id) ?_
  rintro r H3 ⟨rfl, rfl⟩
  obtain ⟨H4, hx4, hw4, ha4, hal, hst⟩ := x_copy (Ext.refl H3) hw2 (z := zk) (e := foundC ks id) (n := 6) rfl rfl rfl rfl
  have l2 := ha4.ld (j := 2) (v := .int .u8 ((findK ks id).getD zeroK).kind) rfl 1
  have v0 := (ha2.ext hx4).ld (j := 0) (v := .int .u8 v.kind) rfl 1
  have va := (ha2.ext hx4).lda (n := 4) rfl
  cases hf : (findK ks id).isSome with
  | false =>
    simp only [stp, if_true, if_false, Int.reduceEq, Int.reduceLT, Int.reduceLE, Int.reduceGT, Int.reduceGE, reduceCtorEq, Nat.reduceEqDiff, List.getElem?_cons_zero, List.getElem?_cons_succ, Option.map_some, hal, hst, hf, Bool.false_eq_true]
    exact ⟨hx2.trans hx4, by simp [fitsK, hf], rfl⟩
  | true =>
    by_cases hk : ((findK ks id).getD zeroK).kind = v.kind
    · simp only [stp, if_true, if_false, Int.reduceEq, Int.reduceLT, Int.reduceLE, Int.reduceGT, Int.reduceGE, reduceCtorEq, Nat.reduceEqDiff, List.getElem?_cons_zero, List.getElem?_cons_succ, Option.map_some, hal, hst, hf, l2, v0, hk, va]
      refine SCalls.mono (valueMay_calls hU v _ (hT.ext (hx2.trans hx4))) ?_
      rintro r H5 ⟨rfl, rfl⟩
      simp only [stp, if_true, if_false, Int.reduceEq, Int.reduceLT, Int.reduceLE, Int.reduceGT, Int.reduceGE, reduceCtorEq, Nat.reduceEqDiff, List.getElem?_cons_zero, List.getElem?_cons_succ, Option.map_some]
      exact ⟨hx2.trans hx4, by simp [fitsK, hf, hk], rfl⟩
    · simp only [stp, if_true, if_false, Int.reduceEq, Int.reduceLT, Int.reduceLE, Int.reduceGT, Int.reduceGE, reduceCtorEq, Nat.reduceEqDiff, List.getElem?_cons_zero, List.getElem?_cons_succ, Option.map_some, hal, hst, hf, l2, v0, hk, Bool.false_eq_true]
      exact ⟨hx2.trans hx4, by simp [fitsK, hf, hk], rfl⟩
end Go.Proofs.YtbadbkdpnbacnaaDoor.Fw

/- What functions of the program answer: whether attributes may be. No condition but what utf8.Valid answers, which is a hypothesis here. -/
namespace Go.Proofs.YtbadbkdpnbacnaaDoor.Fw
open Go
set_option linter.unusedSimpArgs false
set_option linter.unusedVariables false
variable {vU : ByteArray → Bool}

def prevBad (p : Option Int) (k : Int) : Bool := match p with
  | some q => decide (q ≥ k)
  | none => false
def attrsF (vU : ByteArray → Bool) (ks : List KeyA) : Option Int → Int → List AttrA → Int
  | _, e, [] => e
  | p, e, a :: ats => if prevBad p a.key || !vMay vU a.val then 3 else attrsF vU ks (some a.key) (if fitsK vU ks a.key a.val then e else 4) ats
def attrsMayF (vU : ByteArray → Bool) (ks : List KeyA) (ats : List AttrA) : Int := if ats.length > 64 then 3 else attrsF vU ks none 0 ats
def prevOf (ats : List AttrA) (k : Nat) : Option Int := if k = 0 then none else (ats[k - 1]?).map (·.key)

set_option maxHeartbeats 1000000 in
theorem attrsMay_calls (hU : ValidIs vU) {s x : V} {H : Heap} {ks : List KeyA} {ats : List AttrA} (hT : Tabs H) (hs : Sch H s ks) (hx : SL H x 5 (ats.map AttrA.cells)) :
    SCalls PP 39 [s, x] H fun r H' => H' = H ∧ r = .int .i64 (attrsMayF vU ks ats) := by
  refine SCalls.keep (R := fun r => r = .int .i64 (attrsMayF vU ks ats)) (SCalls.go c39 (by simp [fn39]) fun hw => ?_)
  by_cases h64 : (ats.length : Int) > 64
  · have h64' : ats.length > 64 := by omega
    simp only [fn39, enterFr, List.length, List.range, List.range.loop, List.zip, List.zipWith, stp, if_true, if_false, Int.reduceEq, Int.reduceLT, Int.reduceLE, Int.reduceGT, Int.reduceGE, reduceCtorEq, Nat.reduceEqDiff, List.getElem?_cons_zero, List.getElem?_cons_succ, Option.map_some, hx.len, List.length_map, h64]
    exact ⟨Ext.refl H, by simp [attrsMayF, h64'], rfl⟩
  have h64' : ¬ ats.length > 64 := by omega
  have hF : attrsMayF vU ks ats = attrsF vU ks none 0 ats := by simp [attrsMayF, h64']
  rw [hF]
  simp only [fn39, enterFr, List.length, List.range, List.range.loop, List.zip, List.zipWith, stp, if_true, if_false, Int.reduceEq, Int.reduceLT, Int.reduceLE, Int.reduceGT, Int.reduceGE, reduceCtorEq, Nat.reduceEqDiff, List.getElem?_cons_zero, List.getElem?_cons_succ, Option.map_some, hx.len, List.length_map, h64]
  refine wp_range SCalls.scMono (by omega) (fun e : Int => [(11, x), (5, .int .i64 e), (0, s), (1, x)]) (fun k e H' => attrsF vU ks (prevOf ats k) e (ats.drop k) = attrsF vU ks none 0 ats ∧ Ext H H' ∧ WF H') 0 ⟨rfl, Ext.refl H, hw⟩
    (.cons rfl (.cons rfl (.cons rfl (.cons rfl (.cons rfl (.cons rfl .nil)))))) (by decide) (fun s => ⟨rfl, rfl, rfl⟩) ?_ ?_
  · rintro k e H' hk ⟨hacc, hext, hwf⟩
    have hm := hx.1 ats[k].cells (List.mem_map_of_mem (List.getElem_mem hk))
    obtain ⟨id, o, hia, hat⟩ := (hx.ext hext).ia (H' := H') (i := k) (e := ats[k].cells) (by simp [hk]) .i64
    obtain ⟨H2, hx2, hw2, ha2, hal, hst⟩ := x_copy hext hwf (z := [V.int .i64 0, .int .u8 0, .int .i64 0, .int .u64 0, .str ⟨#[]⟩]) (e := ats[k].cells) (n := 5) rfl rfl hm.1 hm.2
    have hT2 := hT.ext hx2
    have hs2 := hs.ext hx2
    have l0 := ha2.ld (j := 0) (v := .int .i64 ats[k].key) rfl 1
    have ha2v : At H2 H'.next (0 + 1) ats[k].val.cells := At.tail (a := [.int .i64 ats[k].key]) ha2
    have lv := ha2v.lda (n := 4) rfl
    rw [List.drop_eq_getElem_cons hk] at hacc
    simp only [attrsF] at hacc
    have hnext : prevOf ats (k + 1) = some ats[k].key := by simp [prevOf, List.getElem?_eq_getElem hk]
    -- the end of a round, the value's answer known
    have fin : ∀ (fr : Fr), prevBad (prevOf ats k) ats[k].key = false → vMay vU ats[k].val = true → True := fun _ _ _ => trivial
    by_cases hk0 : k = 0
    · subst hk0
      have hpv : prevBad (prevOf ats 0) ats[0].key = false := rfl
      rw [hpv] at hacc
      have hgt : ¬ ((0 : Nat) : Int) > 0 := by omega
      simp only [stp, if_true, if_false, Int.reduceEq, Int.reduceLT, Int.reduceLE, Int.reduceGT, Int.reduceGE, reduceCtorEq, Nat.reduceEqDiff, List.getElem?_cons_zero, List.getElem?_cons_succ, Option.map_some, hia, hat.lda (n := 5) rfl, hal, hst, hgt, Bool.false_eq_true, lv]
      refine SCalls.mono (valueMay_calls hU ats[0].val _ hT2) ?_
      rintro r H3 ⟨rfl, rfl⟩
      cases hv : vMay vU ats[0].val with
      | false =>
        rw [hv] at hacc
        simp only [stp, if_true, if_false, Int.reduceEq, Int.reduceLT, Int.reduceLE, Int.reduceGT, Int.reduceGE, reduceCtorEq, Nat.reduceEqDiff, List.getElem?_cons_zero, List.getElem?_cons_succ, Option.map_some, hv]
        exact ⟨hx2, congrArg (V.int .i64) (by simpa using hacc), rfl⟩
      | true =>
        rw [hv] at hacc
        simp only [stp, if_true, if_false, Int.reduceEq, Int.reduceLT, Int.reduceLE, Int.reduceGT, Int.reduceGE, reduceCtorEq, Nat.reduceEqDiff, List.getElem?_cons_zero, List.getElem?_cons_succ, Option.map_some, hv, l0, lv, Bool.false_eq_true]
        refine SCalls.mono (sfits_calls hU hT2 hs2 ats[0].key ats[0].val) ?_
        rintro r H4 ⟨rfl, rfl⟩
        cases hf : fitsK vU ks ats[0].key ats[0].val with
        | true =>
          simp only [stp, if_true, if_false, Int.reduceEq, Int.reduceLT, Int.reduceLE, Int.reduceGT, Int.reduceGE, reduceCtorEq, Nat.reduceEqDiff, List.getElem?_cons_zero, List.getElem?_cons_succ, Option.map_some, hf]
          exact ⟨e, ⟨by rw [hnext]; simpa [hf] using hacc, hx2, hw2⟩, .cons rfl (.cons rfl (.cons rfl (.cons rfl (.cons rfl (.cons rfl .nil)))))⟩
        | false =>
          simp only [stp, if_true, if_false, Int.reduceEq, Int.reduceLT, Int.reduceLE, Int.reduceGT, Int.reduceGE, reduceCtorEq, Nat.reduceEqDiff, List.getElem?_cons_zero, List.getElem?_cons_succ, Option.map_some, hf]
          exact ⟨4, ⟨by rw [hnext]; simpa [hf] using hacc, hx2, hw2⟩, .cons rfl (.cons rfl (.cons rfl (.cons rfl (.cons rfl (.cons rfl .nil)))))⟩
    · have hgt : (k : Int) > 0 := by omega
      have hk1 : k - 1 < ats.length := by omega
      obtain ⟨id', o', hia', hat'⟩ := (hx.ext hx2).ia (H' := H2) (i := k - 1) (e := ats[k - 1].cells) (by simp [hk1]) .i64
      have lp := hat'.ld (j := 0) (v := .int .i64 ats[k - 1].key) rfl 1
      have hsub : IntKind.i64.wrap ((k : Int) - 1) = ((k - 1 : Nat) : Int) := by rw [wrap_i64 (by omega) (by omega)]; omega
      have hpv : prevBad (prevOf ats k) ats[k].key = decide (ats[k - 1].key ≥ ats[k].key) := by
        simp [prevOf, hk0, List.getElem?_eq_getElem hk1, prevBad]
      rw [hpv] at hacc
      by_cases hge : ats[k - 1].key ≥ ats[k].key
      · simp only [hge, decide_true, Bool.true_or, if_true] at hacc
        simp only [stp, if_true, if_false, Int.reduceEq, Int.reduceLT, Int.reduceLE, Int.reduceGT, Int.reduceGE, reduceCtorEq, Nat.reduceEqDiff, List.getElem?_cons_zero, List.getElem?_cons_succ, Option.map_some, hia, hat.lda (n := 5) rfl, hal, hst, hgt, hsub, hia', lp, l0, hge]
        exact ⟨hx2, congrArg (V.int .i64) hacc, rfl⟩
      · simp only [hge, decide_false, Bool.false_or] at hacc
        simp only [stp, if_true, if_false, Int.reduceEq, Int.reduceLT, Int.reduceLE, Int.reduceGT, Int.reduceGE, reduceCtorEq, Nat.reduceEqDiff, List.getElem?_cons_zero, List.getElem?_cons_succ, Option.map_some, hia, hat.lda (n := 5) rfl, hal, hst, hgt, hsub, hia', lp, l0, hge, lv, Bool.false_eq_true]
        refine SCalls.mono (valueMay_calls hU ats[k].val _ hT2) ?_
        rintro r H3 ⟨rfl, rfl⟩
        cases hv : vMay vU ats[k].val with
        | false =>
          rw [hv] at hacc
          simp only [stp, if_true, if_false, Int.reduceEq, Int.reduceLT, Int.reduceLE, Int.reduceGT, Int.reduceGE, reduceCtorEq, Nat.reduceEqDiff, List.getElem?_cons_zero, List.getElem?_cons_succ, Option.map_some, hv]
          exact ⟨hx2, congrArg (V.int .i64) (by simpa using hacc), rfl⟩
        | true =>
          rw [hv] at hacc
          simp only [stp, if_true, if_false, Int.reduceEq, Int.reduceLT, Int.reduceLE, Int.reduceGT, Int.reduceGE, reduceCtorEq, Nat.reduceEqDiff, List.getElem?_cons_zero, List.getElem?_cons_succ, Option.map_some, hv, l0, lv, Bool.false_eq_true]
          refine SCalls.mono (sfits_calls hU hT2 hs2 ats[k].key ats[k].val) ?_
          rintro r H4 ⟨rfl, rfl⟩
          cases hf : fitsK vU ks ats[k].key ats[k].val with
          | true =>
            simp only [stp, if_true, if_false, Int.reduceEq, Int.reduceLT, Int.reduceLE, Int.reduceGT, Int.reduceGE, reduceCtorEq, Nat.reduceEqDiff, List.getElem?_cons_zero, List.getElem?_cons_succ, Option.map_some, hf]
            exact ⟨e, ⟨by rw [hnext]; simpa [hf] using hacc, hx2, hw2⟩, .cons rfl (.cons rfl (.cons rfl (.cons rfl (.cons rfl (.cons rfl .nil)))))⟩
          | false =>
            simp only [stp, if_true, if_false, Int.reduceEq, Int.reduceLT, Int.reduceLE, Int.reduceGT, Int.reduceGE, reduceCtorEq, Nat.reduceEqDiff, List.getElem?_cons_zero, List.getElem?_cons_succ, Option.map_some, hf]
            exact ⟨4, ⟨by rw [hnext]; simpa [hf] using hacc, hx2, hw2⟩, .cons rfl (.cons rfl (.cons rfl (.cons rfl (.cons rfl (.cons rfl .nil)))))⟩
  · rintro e H' ⟨hacc, hext, hwf⟩
    simp only [stp, if_true, if_false, Int.reduceEq, Int.reduceLT, Int.reduceLE, Int.reduceGT, Int.reduceGE, reduceCtorEq, Nat.reduceEqDiff, List.getElem?_cons_zero, List.getElem?_cons_succ, Option.map_some]
    rw [List.drop_length] at hacc
    exact ⟨hext, congrArg (V.int .i64) hacc, rfl⟩
end Go.Proofs.YtbadbkdpnbacnaaDoor.Fw

/- What functions of the program answer: whether a patch may be. No condition but what utf8.Valid answers, which is a hypothesis here. Parts of it printed by a program. -/
namespace Go.Proofs.YtbadbkdpnbacnaaDoor.Fw
open Go
set_option linter.unusedSimpArgs false
set_option linter.unusedVariables false
variable {vU : ByteArray → Bool}

def valBad (vU : ByteArray → Bool) (c : ChgA) : Bool := (c.gone && !same4 c.val.cells zv) || (!c.gone && !vMay vU c.val)
def keyBad (vU : ByteArray → Bool) (ks : List KeyA) (c : ChgA) : Bool := !(findK ks c.key).isSome || (!c.gone && !fitsK vU ks c.key c.val)
def patchF (vU : ByteArray → Bool) (ks : List KeyA) : Option Int → Int → List ChgA → Int
  | _, e, [] => e
  | p, e, c :: cs => if prevBad p c.key || valBad vU c then 3 else patchF vU ks (some c.key) (if keyBad vU ks c then 4 else e) cs
def patchMayF (vU : ByteArray → Bool) (ks : List KeyA) (cs : List ChgA) : Int := if cs.length > 64 then 3 else patchF vU ks none 0 cs
def prevOfC (cs : List ChgA) (k : Nat) : Option Int := if k = 0 then none else (cs[k - 1]?).map (·.key)
theorem same4_not (v : ValA) (H : Heap) : exec (.eqagg true [0, 0, 0, 2]) [.agg v.cells, .agg zv] H = some (.bool (!same4 v.cells zv), H) := by
  simp only [exec, same4, ValA.cells, sameL, V.sameK, if_true, Option.map_some, Option.getD_some, Bool.bne_true]

set_option maxRecDepth 20000 in
set_option maxHeartbeats 4000000 in
theorem patchMay_calls (hU : ValidIs vU) {s x : V} {H : Heap} {ks : List KeyA} {cs : List ChgA} (hT : Tabs H) (hs : Sch H s ks) (hx : SL H x 6 (cs.map ChgA.cells)) :
    SCalls PP 58 [s, x] H fun r H' => H' = H ∧ r = .int .i64 (patchMayF vU ks cs) := by
  refine SCalls.keep (R := fun r => r = .int .i64 (patchMayF vU ks cs)) (SCalls.go c58 (by simp [fn58]) fun hw => ?_)
  by_cases h64 : (cs.length : Int) > 64
  · have h64' : cs.length > 64 := by omega
    simp only [fn58, enterFr, List.length, List.range, List.range.loop, List.zip, List.zipWith, stp, if_true, if_false, Int.reduceEq, Int.reduceLT, Int.reduceLE, Int.reduceGT, Int.reduceGE, reduceCtorEq, Nat.reduceEqDiff, List.getElem?_cons_zero, List.getElem?_cons_succ, Option.map_some, hx.len, List.length_map, h64]
    exact ⟨Ext.refl H, by simp [patchMayF, h64'], rfl⟩
  have h64' : ¬ cs.length > 64 := by omega
  have hF : patchMayF vU ks cs = patchF vU ks none 0 cs := by simp [patchMayF, h64']
  rw [hF]
  simp only [fn58, enterFr, List.length, List.range, List.range.loop, List.zip, List.zipWith, stp, if_true, if_false, Int.reduceEq, Int.reduceLT, Int.reduceLE, Int.reduceGT, Int.reduceGE, reduceCtorEq, Nat.reduceEqDiff, List.getElem?_cons_zero, List.getElem?_cons_succ, Option.map_some, hx.len, List.length_map, h64]
  refine wp_range SCalls.scMono (by omega) (fun e : Int => [(13, x), (5, .int .i64 e), (0, s), (1, x)]) (fun k e H' => patchF vU ks (prevOfC cs k) e (cs.drop k) = patchF vU ks none 0 cs ∧ Ext H H' ∧ WF H') 0 ⟨rfl, Ext.refl H, hw⟩
    (.cons rfl (.cons rfl (.cons rfl (.cons rfl (.cons rfl (.cons rfl .nil)))))) (by decide) (fun s => ⟨rfl, rfl, rfl⟩) ?_ ?_
  · rintro k e H' hk ⟨hacc, hext, hwf⟩
    have hm := hx.1 cs[k].cells (List.mem_map_of_mem (List.getElem_mem hk))
    obtain ⟨id, o, hia, hat⟩ := (hx.ext hext).ia (H' := H') (i := k) (e := cs[k].cells) (by simp [hk]) .i64
    obtain ⟨H2, hx2, hw2, ha2, hal, hst⟩ := x_copy hext hwf (z := [V.int .i64 0, .bool false, .int .u8 0, .int .i64 0, .int .u64 0, .str ⟨#[]⟩]) (e := cs[k].cells) (n := 6) rfl rfl hm.1 hm.2
    have f0 := ha2.ld (j := 0) (v := .int .i64 cs[k].key) rfl 1
    simp only [stp, if_true, if_false, Int.reduceEq, Int.reduceLT, Int.reduceLE, Int.reduceGT, Int.reduceGE, reduceCtorEq, Nat.reduceEqDiff, List.getElem?_cons_zero, List.getElem?_cons_succ, Option.map_some, hia, hat.lda (n := 6) rfl, hal, hst, f0]
    refine SCalls.mono (find_calls (hs.ext hx2) cs[k].key) ?_
    rintro r H3 ⟨rfl, rfl⟩
    obtain ⟨H4, hx4', hw4, ha4, hal4, hst4⟩ := x_copy (Ext.refl H3) hw2 (z := zk) (e := foundC ks cs[k].key) (n := 6) rfl rfl rfl rfl
    have hx4 : Ext H H4 := hx2.trans hx4'
    have hT4 := hT.ext hx4
    have hs4 := hs.ext hx4
    have ha := ha2.ext hx4'
    have l0 := ha.ld (j := 0) (v := .int .i64 cs[k].key) rfl 1
    have l1 := ha.ld (j := 1) (v := .bool cs[k].gone) rfl 1
    have hav : At H4 H'.next (0 + 2) cs[k].val.cells := At.tail (a := [.int .i64 cs[k].key, .bool cs[k].gone]) ha
    have lv := hav.lda (n := 4) rfl
    have hbz : exec (.build zv []) [] H4 = some (.agg zv, H4) := rfl
    have hq := same4_not cs[k].val H4
    rw [List.drop_eq_getElem_cons hk] at hacc
    simp only [patchF] at hacc
    have hnext : prevOfC cs (k + 1) = some cs[k].key := by simp [prevOfC, List.getElem?_eq_getElem hk]
    have bad : ∀ (b : Bool), b = true → (if b then (3 : Int) else patchF vU ks (some cs[k].key) (if keyBad vU ks cs[k] then 4 else e) (cs.drop (k + 1))) = patchF vU ks none 0 cs → (3 : Int) = patchF vU ks none 0 cs := fun b hb h => by rw [hb] at h; simpa using h
    have good : ∀ (b : Bool), b = false → (if b then (3 : Int) else patchF vU ks (some cs[k].key) (if keyBad vU ks cs[k] then 4 else e) (cs.drop (k + 1))) = patchF vU ks none 0 cs → patchF vU ks (prevOfC cs (k + 1)) (if keyBad vU ks cs[k] then 4 else e) (cs.drop (k + 1)) = patchF vU ks none 0 cs := fun b hb h => by rw [hb] at h; rw [hnext]; simpa using h
    have kb4 : keyBad vU ks cs[k] = true → patchF vU ks (prevOfC cs (k + 1)) (if keyBad vU ks cs[k] then 4 else e) (cs.drop (k + 1)) = patchF vU ks none 0 cs → patchF vU ks (prevOfC cs (k + 1)) 4 (cs.drop (k + 1)) = patchF vU ks none 0 cs := fun hb h => by rw [hb] at h; simpa using h
    have kb0 : keyBad vU ks cs[k] = false → patchF vU ks (prevOfC cs (k + 1)) (if keyBad vU ks cs[k] then 4 else e) (cs.drop (k + 1)) = patchF vU ks none 0 cs → patchF vU ks (prevOfC cs (k + 1)) e (cs.drop (k + 1)) = patchF vU ks none 0 cs := fun hb h => by rw [hb] at h; simpa using h
    by_cases hk0 : k = 0
    · subst hk0
      have hpv : prevBad (prevOfC cs 0) cs[0].key = false := rfl
      have hgt : ¬ ((0 : Nat) : Int) > 0 := by omega
      cases hg : cs[0].gone with
      | true =>
        rw [hg] at l1
        cases hz : same4 cs[0].val.cells zv with
        | false =>
          simp only [stp, if_true, if_false, Int.reduceEq, Int.reduceLT, Int.reduceLE, Int.reduceGT, Int.reduceGE, reduceCtorEq, Nat.reduceEqDiff, List.getElem?_cons_zero, List.getElem?_cons_succ, Option.map_some, hgt, hal4, hst4, l0, l1, lv, hbz, hq, hz, Bool.false_eq_true]
          exact ⟨hx4, congrArg (V.int .i64) (bad _ (by simp [hpv, valBad, hg, hz]) hacc), rfl⟩
        | true =>
          have hac2 := good _ (by simp [hpv, valBad, hg, hz]) hacc
          cases hth : (findK ks cs[0].key).isSome with
          | true =>
            simp only [stp, if_true, if_false, Int.reduceEq, Int.reduceLT, Int.reduceLE, Int.reduceGT, Int.reduceGE, reduceCtorEq, Nat.reduceEqDiff, List.getElem?_cons_zero, List.getElem?_cons_succ, Option.map_some, hgt, hal4, hst4, l0, l1, lv, hbz, hq, hz, hth, Bool.false_eq_true]
            exact ⟨e, ⟨kb0 (by simp [keyBad, hg, hth]) hac2, hx4, hw4⟩, .cons rfl (.cons rfl (.cons rfl (.cons rfl (.cons rfl (.cons rfl .nil)))))⟩
          | false =>
            simp only [stp, if_true, if_false, Int.reduceEq, Int.reduceLT, Int.reduceLE, Int.reduceGT, Int.reduceGE, reduceCtorEq, Nat.reduceEqDiff, List.getElem?_cons_zero, List.getElem?_cons_succ, Option.map_some, hgt, hal4, hst4, l0, l1, lv, hbz, hq, hz, hth, Bool.false_eq_true]
            exact ⟨4, ⟨kb4 (by simp [keyBad, hg, hth]) hac2, hx4, hw4⟩, .cons rfl (.cons rfl (.cons rfl (.cons rfl (.cons rfl (.cons rfl .nil)))))⟩
      | false =>
        rw [hg] at l1
        simp only [stp, if_true, if_false, Int.reduceEq, Int.reduceLT, Int.reduceLE, Int.reduceGT, Int.reduceGE, reduceCtorEq, Nat.reduceEqDiff, List.getElem?_cons_zero, List.getElem?_cons_succ, Option.map_some, hgt, hal4, hst4, l0, l1, lv, hbz, hq, Bool.false_eq_true]
        refine SCalls.mono (valueMay_calls hU cs[0].val _ hT4) ?_
        rintro r H5 ⟨rfl, rfl⟩
        cases hv : vMay vU cs[0].val with
        | false =>
          simp only [stp, if_true, if_false, Int.reduceEq, Int.reduceLT, Int.reduceLE, Int.reduceGT, Int.reduceGE, reduceCtorEq, Nat.reduceEqDiff, List.getElem?_cons_zero, List.getElem?_cons_succ, Option.map_some, hv, Bool.false_eq_true]
          exact ⟨hx4, congrArg (V.int .i64) (bad _ (by simp [hpv, valBad, hg, hv]) hacc), rfl⟩
        | true =>
          have hac2 := good _ (by simp [hpv, valBad, hg, hv]) hacc
          cases hth : (findK ks cs[0].key).isSome with
          | false =>
            simp only [stp, if_true, if_false, Int.reduceEq, Int.reduceLT, Int.reduceLE, Int.reduceGT, Int.reduceGE, reduceCtorEq, Nat.reduceEqDiff, List.getElem?_cons_zero, List.getElem?_cons_succ, Option.map_some, hv, l0, l1, lv, hth, Bool.false_eq_true]
            exact ⟨4, ⟨kb4 (by simp [keyBad, hg, hth]) hac2, hx4, hw4⟩, .cons rfl (.cons rfl (.cons rfl (.cons rfl (.cons rfl (.cons rfl .nil)))))⟩
          | true =>
            simp only [stp, if_true, if_false, Int.reduceEq, Int.reduceLT, Int.reduceLE, Int.reduceGT, Int.reduceGE, reduceCtorEq, Nat.reduceEqDiff, List.getElem?_cons_zero, List.getElem?_cons_succ, Option.map_some, hv, l0, l1, lv, hth, Bool.false_eq_true]
            refine SCalls.mono (sfits_calls hU hT4 hs4 cs[0].key cs[0].val) ?_
            rintro r H6 ⟨rfl, rfl⟩
            cases hf : fitsK vU ks cs[0].key cs[0].val with
            | true =>
              simp only [stp, if_true, if_false, Int.reduceEq, Int.reduceLT, Int.reduceLE, Int.reduceGT, Int.reduceGE, reduceCtorEq, Nat.reduceEqDiff, List.getElem?_cons_zero, List.getElem?_cons_succ, Option.map_some, hf, Bool.false_eq_true]
              exact ⟨e, ⟨kb0 (by simp [keyBad, hg, hth, hf]) hac2, hx4, hw4⟩, .cons rfl (.cons rfl (.cons rfl (.cons rfl (.cons rfl (.cons rfl .nil)))))⟩
            | false =>
              simp only [stp, if_true, if_false, Int.reduceEq, Int.reduceLT, Int.reduceLE, Int.reduceGT, Int.reduceGE, reduceCtorEq, Nat.reduceEqDiff, List.getElem?_cons_zero, List.getElem?_cons_succ, Option.map_some, hf, Bool.false_eq_true]
              exact ⟨4, ⟨kb4 (by simp [keyBad, hg, hth, hf]) hac2, hx4, hw4⟩, .cons rfl (.cons rfl (.cons rfl (.cons rfl (.cons rfl (.cons rfl .nil)))))⟩
    · have hgt : (k : Int) > 0 := by omega
      have hk1 : k - 1 < cs.length := by omega
      obtain ⟨id', o', hia', hat'⟩ := (hx.ext hx4).ia (H' := H4) (i := k - 1) (e := cs[k - 1].cells) (by simp [hk1]) .i64
      have lp := hat'.ld (j := 0) (v := .int .i64 cs[k - 1].key) rfl 1
      have hsub : IntKind.i64.wrap ((k : Int) - 1) = ((k - 1 : Nat) : Int) := by rw [wrap_i64 (by omega) (by omega)]; omega
      have hpe : prevBad (prevOfC cs k) cs[k].key = decide (cs[k - 1].key ≥ cs[k].key) := by
        simp [prevOfC, hk0, List.getElem?_eq_getElem hk1, prevBad]
      by_cases hge : cs[k - 1].key ≥ cs[k].key
      · have hpv : prevBad (prevOfC cs k) cs[k].key = true := by rw [hpe]; simpa using hge
        simp only [stp, if_true, if_false, Int.reduceEq, Int.reduceLT, Int.reduceLE, Int.reduceGT, Int.reduceGE, reduceCtorEq, Nat.reduceEqDiff, List.getElem?_cons_zero, List.getElem?_cons_succ, Option.map_some, hal4, hst4, hgt, hsub, hia', lp, l0, hge]
        exact ⟨hx4, congrArg (V.int .i64) (bad _ (by simp [hpv]) hacc), rfl⟩
      · have hpv : prevBad (prevOfC cs k) cs[k].key = false := by rw [hpe]; simpa using hge
        cases hg : cs[k].gone with
        | true =>
          rw [hg] at l1
          cases hz : same4 cs[k].val.cells zv with
          | false =>
            simp only [stp, if_true, if_false, Int.reduceEq, Int.reduceLT, Int.reduceLE, Int.reduceGT, Int.reduceGE, reduceCtorEq, Nat.reduceEqDiff, List.getElem?_cons_zero, List.getElem?_cons_succ, Option.map_some, hgt, hsub, hia', lp, hge, hal4, hst4, l0, l1, lv, hbz, hq, hz, Bool.false_eq_true]
            exact ⟨hx4, congrArg (V.int .i64) (bad _ (by simp [hpv, valBad, hg, hz]) hacc), rfl⟩
          | true =>
            have hac2 := good _ (by simp [hpv, valBad, hg, hz]) hacc
            cases hth : (findK ks cs[k].key).isSome with
            | true =>
              simp only [stp, if_true, if_false, Int.reduceEq, Int.reduceLT, Int.reduceLE, Int.reduceGT, Int.reduceGE, reduceCtorEq, Nat.reduceEqDiff, List.getElem?_cons_zero, List.getElem?_cons_succ, Option.map_some, hgt, hsub, hia', lp, hge, hal4, hst4, l0, l1, lv, hbz, hq, hz, hth, Bool.false_eq_true]
              exact ⟨e, ⟨kb0 (by simp [keyBad, hg, hth]) hac2, hx4, hw4⟩, .cons rfl (.cons rfl (.cons rfl (.cons rfl (.cons rfl (.cons rfl .nil)))))⟩
            | false =>
              simp only [stp, if_true, if_false, Int.reduceEq, Int.reduceLT, Int.reduceLE, Int.reduceGT, Int.reduceGE, reduceCtorEq, Nat.reduceEqDiff, List.getElem?_cons_zero, List.getElem?_cons_succ, Option.map_some, hgt, hsub, hia', lp, hge, hal4, hst4, l0, l1, lv, hbz, hq, hz, hth, Bool.false_eq_true]
              exact ⟨4, ⟨kb4 (by simp [keyBad, hg, hth]) hac2, hx4, hw4⟩, .cons rfl (.cons rfl (.cons rfl (.cons rfl (.cons rfl (.cons rfl .nil)))))⟩
        | false =>
          rw [hg] at l1
          simp only [stp, if_true, if_false, Int.reduceEq, Int.reduceLT, Int.reduceLE, Int.reduceGT, Int.reduceGE, reduceCtorEq, Nat.reduceEqDiff, List.getElem?_cons_zero, List.getElem?_cons_succ, Option.map_some, hgt, hsub, hia', lp, hge, hal4, hst4, l0, l1, lv, hbz, hq, Bool.false_eq_true]
          refine SCalls.mono (valueMay_calls hU cs[k].val _ hT4) ?_
          rintro r H5 ⟨rfl, rfl⟩
          cases hv : vMay vU cs[k].val with
          | false =>
            simp only [stp, if_true, if_false, Int.reduceEq, Int.reduceLT, Int.reduceLE, Int.reduceGT, Int.reduceGE, reduceCtorEq, Nat.reduceEqDiff, List.getElem?_cons_zero, List.getElem?_cons_succ, Option.map_some, hv, Bool.false_eq_true]
            exact ⟨hx4, congrArg (V.int .i64) (bad _ (by simp [hpv, valBad, hg, hv]) hacc), rfl⟩
          | true =>
            have hac2 := good _ (by simp [hpv, valBad, hg, hv]) hacc
            cases hth : (findK ks cs[k].key).isSome with
            | false =>
              simp only [stp, if_true, if_false, Int.reduceEq, Int.reduceLT, Int.reduceLE, Int.reduceGT, Int.reduceGE, reduceCtorEq, Nat.reduceEqDiff, List.getElem?_cons_zero, List.getElem?_cons_succ, Option.map_some, hv, l0, l1, lv, hth, Bool.false_eq_true]
              exact ⟨4, ⟨kb4 (by simp [keyBad, hg, hth]) hac2, hx4, hw4⟩, .cons rfl (.cons rfl (.cons rfl (.cons rfl (.cons rfl (.cons rfl .nil)))))⟩
            | true =>
              simp only [stp, if_true, if_false, Int.reduceEq, Int.reduceLT, Int.reduceLE, Int.reduceGT, Int.reduceGE, reduceCtorEq, Nat.reduceEqDiff, List.getElem?_cons_zero, List.getElem?_cons_succ, Option.map_some, hv, l0, l1, lv, hth, Bool.false_eq_true]
              refine SCalls.mono (sfits_calls hU hT4 hs4 cs[k].key cs[k].val) ?_
              rintro r H6 ⟨rfl, rfl⟩
              cases hf : fitsK vU ks cs[k].key cs[k].val with
              | true =>
                simp only [stp, if_true, if_false, Int.reduceEq, Int.reduceLT, Int.reduceLE, Int.reduceGT, Int.reduceGE, reduceCtorEq, Nat.reduceEqDiff, List.getElem?_cons_zero, List.getElem?_cons_succ, Option.map_some, hf, Bool.false_eq_true]
                exact ⟨e, ⟨kb0 (by simp [keyBad, hg, hth, hf]) hac2, hx4, hw4⟩, .cons rfl (.cons rfl (.cons rfl (.cons rfl (.cons rfl (.cons rfl .nil)))))⟩
              | false =>
                simp only [stp, if_true, if_false, Int.reduceEq, Int.reduceLT, Int.reduceLE, Int.reduceGT, Int.reduceGE, reduceCtorEq, Nat.reduceEqDiff, List.getElem?_cons_zero, List.getElem?_cons_succ, Option.map_some, hf, Bool.false_eq_true]
                exact ⟨4, ⟨kb4 (by simp [keyBad, hg, hth, hf]) hac2, hx4, hw4⟩, .cons rfl (.cons rfl (.cons rfl (.cons rfl (.cons rfl (.cons rfl .nil)))))⟩
  · rintro e H' ⟨hacc, hext, hwf⟩
    simp only [stp, if_true, if_false, Int.reduceEq, Int.reduceLT, Int.reduceLE, Int.reduceGT, Int.reduceGE, reduceCtorEq, Nat.reduceEqDiff, List.getElem?_cons_zero, List.getElem?_cons_succ, Option.map_some]
    rw [List.drop_length] at hacc
    exact ⟨hext, congrArg (V.int .i64) hacc, rfl⟩
end Go.Proofs.YtbadbkdpnbacnaaDoor.Fw

/- What functions of the program answer: whether a delta may be. No condition but what utf8.Valid answers, which is a hypothesis here. -/
namespace Go.Proofs.YtbadbkdpnbacnaaDoor.Fw
open Go
set_option linter.unusedSimpArgs false
set_option linter.unusedVariables false
variable {vU : ByteArray → Bool}

def oneF (vU : ByteArray → Bool) (ks : List KeyA) (o : OpA) : Int :=
  if !formO o || decide (sizeO o < 1) || decide (sizeO o > 536870912) then 3
  else if attrsMayF vU ks o.ats ≠ 0 then attrsMayF vU ks o.ats else patchMayF vU ks o.chs

set_option maxRecDepth 20000 in
set_option maxHeartbeats 1000000 in
theorem one_calls (hU : ValidIs vU) {s : V} {H : Heap} {ks : List KeyA} {o : OpA} (hT : Tabs H) (hs : Sch H s ks) (ho : o.In H) (hon : o.cells.all V.one = true) :
    SCalls PP 31 [s, .agg o.cells] H fun r H' => H' = H ∧ r = .int .i64 (oneF vU ks o) := by
  refine SCalls.keep (R := fun r => r = .int .i64 (oneF vU ks o)) (SCalls.go c31 (by simp [fn31]) fun hw => ?_)
  obtain ⟨H2, hx2, hw2, ha2, hbx⟩ := x_boxed (Ext.refl H) hw (e := o.cells) hon
  have la := ha2.lda (n := 5) rfl
  have l3 := ha2.ld (j := 3) (v := o.set) rfl 1
  have l4 := ha2.ld (j := 4) (v := o.patch) rfl 1
  have ho2 := ho.ext hx2
  have hT2 := hT.ext hx2
  have hs2 := hs.ext hx2
  simp only [fn31, enterFr, List.length, List.range, List.range.loop, List.zip, List.zipWith, stp, if_true, if_false, Int.reduceEq, Int.reduceLT, Int.reduceLE, Int.reduceGT, Int.reduceGE, reduceCtorEq, Nat.reduceEqDiff, List.getElem?_cons_zero, List.getElem?_cons_succ, Option.map_some, hbx, la]
  refine SCalls.mono (form_calls ho2 hon) ?_
  rintro r H3 ⟨rfl, rfl⟩
  cases hf : formO o with
  | false =>
    simp only [stp, if_true, if_false, Int.reduceEq, Int.reduceLT, Int.reduceLE, Int.reduceGT, Int.reduceGE, reduceCtorEq, Nat.reduceEqDiff, List.getElem?_cons_zero, List.getElem?_cons_succ, Option.map_some, hf, Bool.false_eq_true]
    exact ⟨hx2, by simp [oneF, hf], rfl⟩
  | true =>
    simp only [stp, if_true, if_false, Int.reduceEq, Int.reduceLT, Int.reduceLE, Int.reduceGT, Int.reduceGE, reduceCtorEq, Nat.reduceEqDiff, List.getElem?_cons_zero, List.getElem?_cons_succ, Option.map_some, hf, la, Bool.false_eq_true]
    refine SCalls.mono (size_calls ho2 hon) ?_
    rintro r H4 ⟨rfl, rfl⟩
    by_cases h1 : sizeO o < 1
    · simp only [stp, if_true, if_false, Int.reduceEq, Int.reduceLT, Int.reduceLE, Int.reduceGT, Int.reduceGE, reduceCtorEq, Nat.reduceEqDiff, List.getElem?_cons_zero, List.getElem?_cons_succ, Option.map_some, h1, Bool.false_eq_true]
      exact ⟨hx2, by simp [oneF, hf, h1], rfl⟩
    · simp only [stp, if_true, if_false, Int.reduceEq, Int.reduceLT, Int.reduceLE, Int.reduceGT, Int.reduceGE, reduceCtorEq, Nat.reduceEqDiff, List.getElem?_cons_zero, List.getElem?_cons_succ, Option.map_some, h1, la, Bool.false_eq_true]
      refine SCalls.mono (size_calls ho2 hon) ?_
      rintro r H5 ⟨rfl, rfl⟩
      by_cases h2 : sizeO o > 536870912
      · simp only [stp, if_true, if_false, Int.reduceEq, Int.reduceLT, Int.reduceLE, Int.reduceGT, Int.reduceGE, reduceCtorEq, Nat.reduceEqDiff, List.getElem?_cons_zero, List.getElem?_cons_succ, Option.map_some, h2, Bool.false_eq_true]
        exact ⟨hx2, by simp [oneF, hf, h1, h2], rfl⟩
      · simp only [stp, if_true, if_false, Int.reduceEq, Int.reduceLT, Int.reduceLE, Int.reduceGT, Int.reduceGE, reduceCtorEq, Nat.reduceEqDiff, List.getElem?_cons_zero, List.getElem?_cons_succ, Option.map_some, h2, l3, Bool.false_eq_true]
        refine SCalls.mono (attrsMay_calls hU hT2 hs2 ho2.set) ?_
        rintro r H6 ⟨rfl, rfl⟩
        have e1 : oneF vU ks o = if attrsMayF vU ks o.ats ≠ 0 then attrsMayF vU ks o.ats else patchMayF vU ks o.chs := by
          unfold oneF; rw [if_neg (by simp [hf, h1, h2])]
        by_cases he : attrsMayF vU ks o.ats = 0
        · simp only [stp, if_true, if_false, Int.reduceEq, Int.reduceLT, Int.reduceLE, Int.reduceGT, Int.reduceGE, reduceCtorEq, Nat.reduceEqDiff, List.getElem?_cons_zero, List.getElem?_cons_succ, Option.map_some, he, l4, Bool.false_eq_true]
          refine SCalls.mono (patchMay_calls hU hT2 hs2 ho2.patch) ?_
          rintro r H7 ⟨rfl, rfl⟩
          simp only [stp, if_true, if_false, Int.reduceEq, Int.reduceLT, Int.reduceLE, Int.reduceGT, Int.reduceGE, reduceCtorEq, Nat.reduceEqDiff, List.getElem?_cons_zero, List.getElem?_cons_succ, Option.map_some]
          exact ⟨hx2, by rw [e1, if_neg (by simp [he])], rfl⟩
        · simp only [stp, if_true, if_false, Int.reduceEq, Int.reduceLT, Int.reduceLE, Int.reduceGT, Int.reduceGE, reduceCtorEq, Nat.reduceEqDiff, List.getElem?_cons_zero, List.getElem?_cons_succ, Option.map_some, he, Bool.false_eq_true]
          exact ⟨hx2, by rw [e1, if_pos he], rfl⟩

def mayF (vU : ByteArray → Bool) (ks : List KeyA) : Int → List OpA → Option Int
  | found, [] => some found
  | found, o :: os => if oneF vU ks o = 3 then none else mayF vU ks (if oneF vU ks o ≠ 0 then oneF vU ks o else found) os
def opsMayF (vU : ByteArray → Bool) (ks : List KeyA) (os : List OpA) : Int := match mayF vU ks 0 os with
  | none => 3
  | some f => if takesF 0 os > 536870912 then 3 else if makesF 0 os > 536870912 then 3 else f

set_option maxRecDepth 20000 in
set_option maxHeartbeats 1000000 in
theorem opsMay_calls (hU : ValidIs vU) {s x : V} {H : Heap} {ks : List KeyA} {os : List OpA} (hT : Tabs H) (hs : Sch H s ks) (hx : OpsIn H x os) :
    SCalls PP 13 [s, x] H fun r H' => H' = H ∧ r = .int .i64 (opsMayF vU ks os) := by
  refine SCalls.keep (R := fun r => r = .int .i64 (opsMayF vU ks os)) (SCalls.go c13 (by simp [fn13]) fun hw => ?_)
  have hb := hx.len
  simp only [fn13, enterFr, List.length, List.range, List.range.loop, List.zip, List.zipWith, stp, if_true, if_false, Int.reduceEq, Int.reduceLT, Int.reduceLE, Int.reduceGT, Int.reduceGE, reduceCtorEq, Nat.reduceEqDiff, List.getElem?_cons_zero, List.getElem?_cons_succ, Option.map_some, hx.sl.len]
  refine wp_range SCalls.scMono (by simp only [List.length_map]; unfold big at hb; omega) (fun f : Int => [(9, x), (5, .int .i64 f), (0, s), (1, x)]) (fun k f H' => mayF vU ks f (os.drop k) = mayF vU ks 0 os ∧ Ext H H' ∧ WF H') 0 ⟨rfl, Ext.refl H, hw⟩
    (.cons rfl (.cons rfl (.cons rfl (.cons rfl (.cons rfl (.cons rfl .nil)))))) (by decide) (fun s => ⟨rfl, rfl, rfl⟩) ?_ ?_
  · rintro k f H' hk ⟨hacc, hext, hwf⟩
    rw [List.length_map] at hk
    have hm := (hx.sl.1 _ (List.mem_map_of_mem (List.getElem_mem hk))).2
    simp only [s_seq, s_region]
    refine wp_elem hx.sl hext hwf (k := k) (e := os[k].cells) (by simp [hk]) rfl rfl rfl rfl (by decide) fun q id o H2 hx2 hw2 ha2 _ => ?_
    have la := ha2.lda (n := 5) rfl
    rw [List.drop_eq_getElem_cons hk] at hacc
    simp only [mayF] at hacc
    simp only [stp, if_true, if_false, Int.reduceEq, Int.reduceLT, Int.reduceLE, Int.reduceGT, Int.reduceGE, reduceCtorEq, Nat.reduceEqDiff, List.getElem?_cons_zero, List.getElem?_cons_succ, Option.map_some, la]
    refine SCalls.mono (one_calls hU (hT.ext hx2) (hs.ext hx2) ((hx.ins _ (List.getElem_mem hk)).ext hx2) hm) ?_
    rintro r H3 ⟨rfl, rfl⟩
    by_cases h3 : oneF vU ks os[k] = 3
    · rw [if_pos h3] at hacc
      simp only [stp, if_true, if_false, Int.reduceEq, Int.reduceLT, Int.reduceLE, Int.reduceGT, Int.reduceGE, reduceCtorEq, Nat.reduceEqDiff, List.getElem?_cons_zero, List.getElem?_cons_succ, Option.map_some, h3]
      exact ⟨hx2, by simp [opsMayF, ← hacc], rfl⟩
    · rw [if_neg h3] at hacc
      by_cases h0 : oneF vU ks os[k] = 0
      · rw [if_neg (by simp [h0])] at hacc
        simp only [stp, if_true, if_false, Int.reduceEq, Int.reduceLT, Int.reduceLE, Int.reduceGT, Int.reduceGE, reduceCtorEq, Nat.reduceEqDiff, List.getElem?_cons_zero, List.getElem?_cons_succ, Option.map_some, h0]
        exact ⟨f, ⟨hacc, hx2, hw2⟩, .cons rfl (.cons rfl (.cons rfl (.cons rfl (.cons rfl (.cons rfl .nil)))))⟩
      · rw [if_pos h0] at hacc
        simp only [stp, if_true, if_false, Int.reduceEq, Int.reduceLT, Int.reduceLE, Int.reduceGT, Int.reduceGE, reduceCtorEq, Nat.reduceEqDiff, List.getElem?_cons_zero, List.getElem?_cons_succ, Option.map_some, h3, h0]
        exact ⟨_, ⟨hacc, hx2, hw2⟩, .cons rfl (.cons rfl (.cons rfl (.cons rfl (.cons rfl (.cons rfl .nil)))))⟩
  · rintro f H' ⟨hacc, hext, hwf⟩
    rw [List.length_map, List.drop_length] at hacc
    simp only [mayF] at hacc
    simp only [stp, if_true, if_false, Int.reduceEq, Int.reduceLT, Int.reduceLE, Int.reduceGT, Int.reduceGE, reduceCtorEq, Nat.reduceEqDiff, List.getElem?_cons_zero, List.getElem?_cons_succ, Option.map_some]
    refine SCalls.mono (takes_calls (hx.ext hext)) ?_
    rintro r H3 ⟨rfl, rfl⟩
    by_cases h1 : takesF 0 os > 536870912
    · simp only [stp, if_true, if_false, Int.reduceEq, Int.reduceLT, Int.reduceLE, Int.reduceGT, Int.reduceGE, reduceCtorEq, Nat.reduceEqDiff, List.getElem?_cons_zero, List.getElem?_cons_succ, Option.map_some, h1]
      exact ⟨hext, by simp [opsMayF, ← hacc, h1], rfl⟩
    · simp only [stp, if_true, if_false, Int.reduceEq, Int.reduceLT, Int.reduceLE, Int.reduceGT, Int.reduceGE, reduceCtorEq, Nat.reduceEqDiff, List.getElem?_cons_zero, List.getElem?_cons_succ, Option.map_some, h1, Bool.false_eq_true]
      refine SCalls.mono (makes_calls (hx.ext hext)) ?_
      rintro r H4 ⟨rfl, rfl⟩
      by_cases h2 : makesF 0 os > 536870912
      · simp only [stp, if_true, if_false, Int.reduceEq, Int.reduceLT, Int.reduceLE, Int.reduceGT, Int.reduceGE, reduceCtorEq, Nat.reduceEqDiff, List.getElem?_cons_zero, List.getElem?_cons_succ, Option.map_some, h2, Bool.false_eq_true]
        exact ⟨hext, by simp [opsMayF, ← hacc, h1, h2], rfl⟩
      · simp only [stp, if_true, if_false, Int.reduceEq, Int.reduceLT, Int.reduceLE, Int.reduceGT, Int.reduceGE, reduceCtorEq, Nat.reduceEqDiff, List.getElem?_cons_zero, List.getElem?_cons_succ, Option.map_some, h2, Bool.false_eq_true]
        exact ⟨hext, by simp [opsMayF, ← hacc, h1, h2], rfl⟩

/-- ops.Fits, given what ops.InPlace answers. -/
def fitsF (vU : ByteArray → Bool) (ks : List KeyA) (pl : Bool) (os : List OpA) (n most : Int) : Int :=
  if opsMayF vU ks os ≠ 0 then opsMayF vU ks os
  else if n < 1 ∨ n > most ∨ takesF 0 os > n then 5
  else if finalF 0 os n = false then 6
  else if pl = false then 7
  else if IntKind.i64.wrap (makesF 0 os - takesF 0 os) > IntKind.i64.wrap (most - n) then 8
  else 0
set_option maxRecDepth 20000 in
set_option maxHeartbeats 1000000 in
theorem fits_calls (hU : ValidIs vU) {s x : V} {H : Heap} {ks : List KeyA} {os : List OpA} (hT : Tabs H) (hs : Sch H s ks) (hx : OpsIn H x os) {pl : Bool} (hpl : SCalls PP 14 [s, x] H fun r H' => H' = H ∧ r = .bool pl) (n most : Int) :
    SCalls PP 10 [s, x, .int .i64 n, .int .i64 most] H fun r H' => H' = H ∧ r = .int .i64 (fitsF vU ks pl os n most) := by
  refine SCalls.go c10 (by simp [fn10]) fun hw => ?_
  simp only [fn10, enterFr, List.length, List.range, List.range.loop, List.zip, List.zipWith, stp, if_true, if_false, Int.reduceEq, Int.reduceLT, Int.reduceLE, Int.reduceGT, Int.reduceGE, reduceCtorEq, Nat.reduceEqDiff, List.getElem?_cons_zero, List.getElem?_cons_succ, Option.map_some]
  refine SCalls.mono (opsMay_calls hU hT hs hx) ?_
  rintro r H1 ⟨rfl, rfl⟩
  by_cases h0 : opsMayF vU ks os = 0
  · simp only [stp, if_true, if_false, Int.reduceEq, Int.reduceLT, Int.reduceLE, Int.reduceGT, Int.reduceGE, reduceCtorEq, Nat.reduceEqDiff, List.getElem?_cons_zero, List.getElem?_cons_succ, Option.map_some, h0, Bool.false_eq_true]
    by_cases h1 : n < 1
    · simp only [stp, if_true, if_false, Int.reduceEq, Int.reduceLT, Int.reduceLE, Int.reduceGT, Int.reduceGE, reduceCtorEq, Nat.reduceEqDiff, List.getElem?_cons_zero, List.getElem?_cons_succ, Option.map_some, h1, Bool.false_eq_true]
      exact ⟨by trivial, by simp [fitsF, h0, h1]⟩
    by_cases h2 : n > most
    · simp only [stp, if_true, if_false, Int.reduceEq, Int.reduceLT, Int.reduceLE, Int.reduceGT, Int.reduceGE, reduceCtorEq, Nat.reduceEqDiff, List.getElem?_cons_zero, List.getElem?_cons_succ, Option.map_some, h1, h2, Bool.false_eq_true]
      exact ⟨by trivial, by simp [fitsF, h0, h1, h2]⟩
    simp only [stp, if_true, if_false, Int.reduceEq, Int.reduceLT, Int.reduceLE, Int.reduceGT, Int.reduceGE, reduceCtorEq, Nat.reduceEqDiff, List.getElem?_cons_zero, List.getElem?_cons_succ, Option.map_some, h1, h2, Bool.false_eq_true]
    refine SCalls.mono (takes_calls hx) ?_
    rintro r H2 ⟨rfl, rfl⟩
    by_cases h3 : takesF 0 os > n
    · simp only [stp, if_true, if_false, Int.reduceEq, Int.reduceLT, Int.reduceLE, Int.reduceGT, Int.reduceGE, reduceCtorEq, Nat.reduceEqDiff, List.getElem?_cons_zero, List.getElem?_cons_succ, Option.map_some, h3, Bool.false_eq_true]
      exact ⟨by trivial, by simp [fitsF, h0, h1, h2, h3]⟩
    simp only [stp, if_true, if_false, Int.reduceEq, Int.reduceLT, Int.reduceLE, Int.reduceGT, Int.reduceGE, reduceCtorEq, Nat.reduceEqDiff, List.getElem?_cons_zero, List.getElem?_cons_succ, Option.map_some, h3, Bool.false_eq_true]
    refine SCalls.mono (final_calls hx n) ?_
    rintro r H3 ⟨rfl, rfl⟩
    have hc : ¬ (n < 1 ∨ n > most ∨ takesF 0 os > n) := by omega
    cases h4 : finalF 0 os n with
    | false =>
      simp only [stp, if_true, if_false, Int.reduceEq, Int.reduceLT, Int.reduceLE, Int.reduceGT, Int.reduceGE, reduceCtorEq, Nat.reduceEqDiff, List.getElem?_cons_zero, List.getElem?_cons_succ, Option.map_some, h4, Bool.false_eq_true]
      exact ⟨by trivial, by unfold fitsF; rw [if_neg (by simp [h0]), if_neg hc, if_pos h4]⟩
    | true =>
      simp only [stp, if_true, if_false, Int.reduceEq, Int.reduceLT, Int.reduceLE, Int.reduceGT, Int.reduceGE, reduceCtorEq, Nat.reduceEqDiff, List.getElem?_cons_zero, List.getElem?_cons_succ, Option.map_some, h4, Bool.false_eq_true]
      refine SCalls.mono hpl ?_
      rintro r H4 ⟨rfl, rfl⟩
      have e4 : ¬ finalF 0 os n = false := by rw [h4]; simp
      cases pl with
      | false =>
        simp only [stp, if_true, if_false, Int.reduceEq, Int.reduceLT, Int.reduceLE, Int.reduceGT, Int.reduceGE, reduceCtorEq, Nat.reduceEqDiff, List.getElem?_cons_zero, List.getElem?_cons_succ, Option.map_some, Bool.false_eq_true]
        exact ⟨by trivial, by unfold fitsF; rw [if_neg (by simp [h0]), if_neg hc, if_neg e4, if_pos rfl]⟩
      | true =>
        simp only [stp, if_true, if_false, Int.reduceEq, Int.reduceLT, Int.reduceLE, Int.reduceGT, Int.reduceGE, reduceCtorEq, Nat.reduceEqDiff, List.getElem?_cons_zero, List.getElem?_cons_succ, Option.map_some, Bool.false_eq_true]
        refine SCalls.mono (makes_calls hx) ?_
        rintro r H5 ⟨rfl, rfl⟩
        simp only [stp, if_true, if_false, Int.reduceEq, Int.reduceLT, Int.reduceLE, Int.reduceGT, Int.reduceGE, reduceCtorEq, Nat.reduceEqDiff, List.getElem?_cons_zero, List.getElem?_cons_succ, Option.map_some]
        refine SCalls.mono (takes_calls hx) ?_
        rintro r H6 ⟨rfl, rfl⟩
        by_cases h5 : IntKind.i64.wrap (makesF 0 os - takesF 0 os) > IntKind.i64.wrap (most - n)
        · simp only [stp, if_true, if_false, Int.reduceEq, Int.reduceLT, Int.reduceLE, Int.reduceGT, Int.reduceGE, reduceCtorEq, Nat.reduceEqDiff, List.getElem?_cons_zero, List.getElem?_cons_succ, Option.map_some, h5, Bool.false_eq_true]
          exact ⟨by trivial, by unfold fitsF; rw [if_neg (by simp [h0]), if_neg hc, if_neg e4, if_neg (by simp), if_pos h5]⟩
        · simp only [stp, if_true, if_false, Int.reduceEq, Int.reduceLT, Int.reduceLE, Int.reduceGT, Int.reduceGE, reduceCtorEq, Nat.reduceEqDiff, List.getElem?_cons_zero, List.getElem?_cons_succ, Option.map_some, h5, Bool.false_eq_true]
          exact ⟨by trivial, by unfold fitsF; rw [if_neg (by simp [h0]), if_neg hc, if_neg e4, if_neg (by simp), if_neg h5]⟩
  · simp only [stp, if_true, if_false, Int.reduceEq, Int.reduceLT, Int.reduceLE, Int.reduceGT, Int.reduceGE, reduceCtorEq, Nat.reduceEqDiff, List.getElem?_cons_zero, List.getElem?_cons_succ, Option.map_some, h0, Bool.false_eq_true]
    exact ⟨by trivial, by simp [fitsF, h0]⟩
end Go.Proofs.YtbadbkdpnbacnaaDoor.Fw

/- What functions of the program answer: parts of attributes, newlines. No condition. -/
namespace Go.Proofs.YtbadbkdpnbacnaaDoor.Fw
open Go
set_option linter.unusedSimpArgs false
set_option linter.unusedVariables false

/-! ### Newlines -/
def nlF : Int → List Int → Int
  | n, [] => n
  | n, r :: rs => nlF (if r = 10 then n + 1 else n) rs
theorem newlines_calls {x : V} {H : Heap} {rs : List Int} (hx : SL H x 1 (rs.map fun r => [V.int .i32 r])) (hl : rs.length ≤ big) : SCalls PP 33 [x] H fun r H' => H' = H ∧ r = .int .i64 (nlF 0 rs) := by
  refine SCalls.keep (R := fun r => r = .int .i64 (nlF 0 rs)) (SCalls.go c33 (by simp [fn33]) fun hw => ?_)
  unfold big at hl
  simp only [fn33, enterFr, List.length, List.range, List.range.loop, List.zip, List.zipWith, stp, if_true, if_false, Int.reduceEq, Int.reduceLT, Int.reduceLE, Int.reduceGT, Int.reduceGE, reduceCtorEq, Nat.reduceEqDiff, List.getElem?_cons_zero, List.getElem?_cons_succ, Option.map_some, hx.len]
  refine wp_range SCalls.scMono (by simp only [List.length_map]; omega) (fun n : Int => [(6, x), (3, .int .i64 n)]) (fun k n H' => nlF n (rs.drop k) = nlF 0 rs ∧ 0 ≤ n ∧ n ≤ k ∧ H' = H) 0 ⟨rfl, by omega, by omega, rfl⟩
    (.cons rfl (.cons rfl (.cons rfl (.cons rfl .nil)))) (by decide) (fun s => ⟨rfl, rfl, rfl⟩) ?_ ?_
  · rintro k n H' hk ⟨hacc, h0, hn, rfl⟩
    rw [List.length_map] at hk
    obtain ⟨id, p, hia, hat⟩ := hx.ia (H' := H') (i := k) (e := [V.int .i32 rs[k]]) (by simp [hk]) .i64
    have l0 := hat.ld (j := 0) (v := .int .i32 rs[k]) rfl 1
    rw [Nat.add_zero] at l0
    rw [List.drop_eq_getElem_cons hk] at hacc
    simp only [nlF] at hacc
    by_cases hr : rs[k] = 10
    · rw [if_pos hr] at hacc
      simp only [stp, if_true, if_false, Int.reduceEq, Int.reduceLT, Int.reduceLE, Int.reduceGT, Int.reduceGE, reduceCtorEq, Nat.reduceEqDiff, List.getElem?_cons_zero, List.getElem?_cons_succ, Option.map_some, hia, l0, hr]
      rw [wrap_i64 (by omega) (by omega)]
      exact ⟨n + 1, ⟨hacc, by omega, by omega, by trivial⟩, .cons rfl (.cons rfl (.cons rfl (.cons rfl .nil)))⟩
    · rw [if_neg hr] at hacc
      simp only [stp, if_true, if_false, Int.reduceEq, Int.reduceLT, Int.reduceLE, Int.reduceGT, Int.reduceGE, reduceCtorEq, Nat.reduceEqDiff, List.getElem?_cons_zero, List.getElem?_cons_succ, Option.map_some, hia, l0, hr]
      exact ⟨n, ⟨hacc, h0, by omega, by trivial⟩, .cons rfl (.cons rfl (.cons rfl (.cons rfl .nil)))⟩
  · rintro n H' ⟨hacc, h0, hn, rfl⟩
    simp only [stp, if_true, if_false, Int.reduceEq, Int.reduceLT, Int.reduceLE, Int.reduceGT, Int.reduceGE, reduceCtorEq, Nat.reduceEqDiff, List.getElem?_cons_zero, List.getElem?_cons_succ, Option.map_some]
    rw [List.length_map, List.drop_length] at hacc
    exact ⟨Ext.refl _, congrArg (V.int .i64) hacc, rfl⟩

/-! ### Rows of elements -/
theorem flatG {sz : Nat} : ∀ {es : List (List V)} (_ : ∀ e ∈ es, e.length = sz) {i j : Nat} {e : List V}, es[i]? = some e → j < sz → es.flatten[i * sz + j]? = e[j]?
  | [], h, i, j, e, he, hj => by simp at he
  | x :: es, h, 0, j, e, he, hj => by
    simp at he; subst he
    rw [List.flatten_cons, List.getElem?_append_left (by rw [h x (by simp)]; omega)]
    simp
  | x :: es, h, i + 1, j, e, he, hj => by
    have hx := h x (by simp)
    rw [List.flatten_cons, List.getElem?_append_right (by rw [hx, Nat.add_mul]; omega)]
    have := flatG (es := es) (fun y hy => h y (List.mem_cons_of_mem _ hy)) (i := i) (j := j) (e := e) (by simpa using he) hj
    rw [← this, hx, Nat.add_mul]
    congr 1
    omega
theorem flatLen {sz : Nat} : ∀ {es : List (List V)} (_ : ∀ e ∈ es, e.length = sz), es.flatten.length = es.length * sz
  | [], h => by simp
  | x :: es, h => by
    rw [List.flatten_cons, List.length_append, h x (by simp), flatLen fun y hy => h y (by simp [hy]), List.length_cons, Nat.add_mul]
    omega
theorem flatAll {es : List (List V)} (h : ∀ e ∈ es, e.all V.one = true) : es.flatten.all V.one = true := by
  rw [List.all_eq_true]
  intro v hv
  obtain ⟨e, he, hv⟩ := List.mem_flatten.1 hv
  exact List.all_eq_true.1 (h e he) v hv
/-- A row of the call's own that holds the elements es. -/
structure Own (H : Heap) (id sz : Nat) (es : List (List V)) : Prop where
  lt : id < H.next
  get : H.get id = some (.row false sz es.flatten)
  len : ∀ e ∈ es, e.length = sz ∧ e.all V.one = true
theorem Own.sl {H : Heap} {id sz : Nat} {es : List (List V)} (h : Own H id sz es) (cap : Option Nat) : SL H (.slice id 0 es.length cap) sz es := by
  refine ⟨h.len, .inr ⟨id, 0, cap, rfl, h.lt, fun i e he => ⟨h.lt, false, sz, es.flatten, h.get, ?_, fun j v hj => ?_⟩⟩⟩
  · have hi := (List.getElem?_eq_some_iff.1 he).1
    rw [flatLen fun e he => (h.len e he).1, (h.len e (List.mem_of_getElem? he)).1]
    have : (i + 1) * sz ≤ es.length * sz := Nat.mul_le_mul_right _ (by omega)
    rw [Nat.add_mul] at this
    omega
  · have hl := (h.len e (List.mem_of_getElem? he)).1
    rw [Nat.zero_add, flatG (fun e he => (h.len e he).1) he (by rw [← hl]; exact (List.getElem?_eq_some_iff.1 hj).1)]
    exact hj
theorem SL.src {H : Heap} {x : V} {sz : Nat} {es : List (List V)} (h : SL H x sz es) (hne : es ≠ []) : lenV x = some es.length ∧ srcCells H es.length sz x = some es.flatten := by
  obtain ⟨hl, ⟨_, rfl⟩ | ⟨id, off, cap, rfl, hid, hat⟩⟩ := h
  · exact absurd rfl hne
  · refine ⟨rfl, ?_⟩
    obtain ⟨e0, he0⟩ : ∃ e0, es[0]? = some e0 := by cases es with | nil => exact absurd rfl hne | cons a l => exact ⟨a, rfl⟩
    obtain ⟨_, ro, esz, cells, hg, _, _⟩ := hat 0 e0 he0
    have hn : 0 < es.length := by cases es with | nil => exact absurd rfl hne | cons a l => simp
    -- the last element bounds the row
    have hlast : es[es.length - 1]? = some (es[es.length - 1]'(by omega)) := List.getElem?_eq_getElem _
    obtain ⟨_, ro', esz', cells', hg', hb, _⟩ := hat _ _ hlast
    rw [hg] at hg'
    cases hg'
    rw [(hl _ (List.mem_of_getElem? hlast)).1] at hb
    have hmul : (es.length - 1) * sz + sz = es.length * sz := by
      rw [← Nat.succ_mul]; congr 1; omega
    simp only [srcCells, readN, hg]
    by_cases hz0 : es.length * sz = 0
    · rw [if_pos hz0]
      have := flatLen fun e he => (hl e he).1
      rw [hz0] at this
      rw [List.length_eq_zero_iff.1 this]
    rw [if_neg hz0, if_pos (by omega)]
    congr 1
    refine List.ext_getElem? fun q => ?_
    rw [List.getElem?_take]
    split
    · rename_i hq
      rw [List.getElem?_drop]
      have hsz : 0 < sz := by
        rcases Nat.eq_zero_or_pos sz with h0 | h0
        · rw [h0] at hq; simp at hq
        · exact h0
      have hqi : q / sz < es.length := Nat.div_lt_of_lt_mul (by rw [Nat.mul_comm]; exact hq)
      have he := List.getElem?_eq_getElem hqi
      have hqm : q % sz < sz := Nat.mod_lt _ hsz
      obtain ⟨_, ro', esz', cells', hg', _, hc⟩ := hat _ _ he
      rw [hg] at hg'
      cases hg'
      have hle := (hl _ (List.mem_of_getElem? he)).1
      have h1 := hc (q % sz) _ (List.getElem?_eq_getElem (by rw [hle]; exact hqm))
      have h2 := flatG (fun e he => (hl e he).1) he hqm
      rw [show q / sz * sz + q % sz = q by rw [Nat.mul_comm]; exact Nat.div_add_mod q sz] at h2
      have hge := List.getElem?_eq_getElem (l := es[q / sz]) (i := q % sz) (by rw [hle]; exact hqm)
      rw [h2, hge, ← h1]
      congr 1
      have := Nat.div_add_mod q sz
      rw [Nat.mul_comm] at this
      omega
    · rename_i hq
      rw [List.getElem?_eq_none (by rw [flatLen fun e he => (hl e he).1]; omega)]

/-- slices.Clone of attributes. -/
theorem cloneA_calls {x : V} {H : Heap} {es : List (List V)} (hx : SL H x 5 es) (hl : es.length ≤ big) : SCalls PP 60 [x] H fun r H' => Ext H H' ∧ WF H' ∧ ((es = [] ∧ SL H' r 5 es) ∨ ∃ id, r = .slice id 0 es.length none ∧ H.next ≤ id ∧ Own H' id 5 es) := by
  refine SCalls.go c60 (by simp [fn60]) fun hw => ?_
  unfold big at hl
  have hbs : exec (.bsl 5 0 [] []) [] H = some (.slice H.next 0 0 (some 0), H.new (.row false 5 [])) := rfl
  obtain ⟨hlen, ⟨rfl, rfl⟩ | ⟨id, off, cap, rfl, hid, hat⟩⟩ := id hx
  · have hn : exec (.eqnil 1 false) [.nils, .nils] H = some (.bool true, H) := rfl
    simp only [fn60, enterFr, List.length, List.range, List.range.loop, List.zip, List.zipWith, stp, if_true, if_false, Int.reduceEq, Int.reduceLT, Int.reduceLE, Int.reduceGT, Int.reduceGE, reduceCtorEq, Nat.reduceEqDiff, List.getElem?_cons_zero, List.getElem?_cons_succ, Option.map_some, hn]
    exact ⟨Ext.refl H, hw, .inl ⟨by trivial, by simp, .inl ⟨rfl, rfl⟩⟩⟩
  · have hn : exec (.eqnil 1 false) [.slice id off es.length cap, .nils] H = some (.bool false, H) := rfl
    have hx1 : Ext H (H.new (.row false 5 [])) := (Ext.refl H).new _
    have hw1 : WF (H.new (.row false 5 [])) := hw.new _
    have hg1 := new_get H (.row false 5 [])
    have hsl1 := hx.ext hx1
    by_cases he : es = []
    · subst he
      have happ : exec (.app 5 48) [.slice H.next 0 0 (some 0), .slice id off 0 cap] (H.new (.row false 5 [])) = some (.slice H.next 0 0 (some 0), H.new (.row false 5 [])) := by
        simp only [exec, appendA, lenV, srcCells, readN]
        rfl
      simp only [fn60, enterFr, List.length, List.range, List.range.loop, List.zip, List.zipWith, stp, if_true, if_false, Int.reduceEq, Int.reduceLT, Int.reduceLE, Int.reduceGT, Int.reduceGE, reduceCtorEq, Nat.reduceEqDiff, List.getElem?_cons_zero, List.getElem?_cons_succ, Option.map_some, hn, hbs, happ]
      refine ⟨.inr rfl, _, rfl, ?_⟩
      exact ⟨hx1, hw1, .inl ⟨by trivial, by simp, .inr ⟨H.next, 0, some 0, rfl, Nat.lt_succ_self _, by simp⟩⟩⟩
    · obtain ⟨s1, s2⟩ := hsl1.src he
      have hln : es.length ≠ 0 := fun h => he (List.length_eq_zero_iff.1 h)
      have happ : exec (.app 5 48) [.slice H.next 0 0 (some 0), .slice id off es.length cap] (H.new (.row false 5 [])) = some (.slice (H.new (.row false 5 [])).next 0 es.length none, (H.new (.row false 5 [])).new (.row false 5 es.flatten)) := by
        simp only [exec, appendA, s1, s2]
        rw [if_neg (by simp [flatLen fun e he => (hlen e he).1, flatAll fun e he => (hlen e he).2]), if_neg hln, if_neg (by simp; omega)]
        rw [if_neg (by omega)]
        simp [readN]
      simp only [fn60, enterFr, List.length, List.range, List.range.loop, List.zip, List.zipWith, stp, if_true, if_false, Int.reduceEq, Int.reduceLT, Int.reduceLE, Int.reduceGT, Int.reduceGE, reduceCtorEq, Nat.reduceEqDiff, List.getElem?_cons_zero, List.getElem?_cons_succ, Option.map_some, hn, hbs, happ]
      exact ⟨hx1.new _, hw1.new _, .inr ⟨_, rfl, Nat.le_succ _, Nat.lt_succ_self _, new_get _ _, hlen⟩⟩
end Go.Proofs.YtbadbkdpnbacnaaDoor.Fw

