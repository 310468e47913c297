/- The functions of the claim, as abstract code; each is checked against the program. -/
import Derived.Test.YtdgmelniiclbnaaSem5
import Derived.Test.YtdgmelniiclbnaaChecked
set_option maxRecDepth 100000
namespace Go.Proofs.Ytdgmelniiclbnaa
open Go

def a_laws_FnExactIsPrefix : AFunc := ⟨[false, false], 45,
  (.seq (.region [⟨some 4, none, .take false (.c (.bool false))⟩] [4])
  (.seq (.region [⟨some 5, none, .take false (.c (I 1048576))⟩] [])
  (.seq (.region [⟨some 10, none, .mv false (.t 0 [])⟩,
    ⟨some 11, none, .mv false (.t 5 [])⟩,
    ⟨some 12, none, .call 11 [(.t 10 []), (.t 11 [])]⟩,
    ⟨some 5, none, .take false (.t 12 [])⟩] [10, 11, 12])
  (.seq (.seq (.region [⟨some 13, none, .mv false (.t 5 [])⟩,
     ⟨some 14, none, .bin .lss (.t 13 []) (.c (I 0))⟩] [13])
   (.cond (.t 14 [])
    (.seq (.region [⟨some 4, none, .take false (.c (.bool true))⟩] [0, 1, 5, 14])
    .ret)
    .skip))
  (.seq (.region [⟨some 15, none, .mv false (.t 1 [])⟩,
    ⟨some 16, none, .mv false (.t 5 [])⟩,
    ⟨some 17, none, .call 11 [(.t 15 []), (.t 16 [])]⟩,
    ⟨some 5, none, .take false (.t 17 [])⟩] [14, 15, 16, 17])
  (.seq (.seq (.region [⟨some 18, none, .mv false (.t 5 [])⟩,
     ⟨some 19, none, .bin .lss (.t 18 []) (.c (I 0))⟩] [5, 18])
   (.cond (.t 19 [])
    (.seq (.region [⟨some 4, none, .take false (.c (.bool true))⟩] [0, 1, 19])
    .ret)
    .skip))
  (.seq (.region [⟨some 20, none, .mv false (.t 0 [])⟩,
    ⟨some 21, none, .call 13 [(.t 20 [])]⟩,
    ⟨some 22, none, .mv false (.t 1 [])⟩,
    ⟨some 23, none, .call 13 [(.t 22 [])]⟩,
    ⟨some 24, none, .call 12 [(.t 21 []), (.t 23 [])]⟩,
    ⟨some 6, none, .take false (.t 24 [])⟩] [19, 20, 21, 22, 23, 24])
  (.seq (.region [⟨some 25, none, .mv false (.t 0 [])⟩,
    ⟨some 26, none, .call 13 [(.t 25 [])]⟩,
    ⟨some 7, none, .take false (.t 26 [])⟩] [25, 26])
  (.seq (.region [⟨some 27, none, .mv false (.t 1 [])⟩,
    ⟨some 28, none, .call 13 [(.t 27 [])]⟩,
    ⟨some 8, none, .take false (.t 28 [])⟩] [27, 28])
  (.seq (.region [⟨some 29, none, .mv false (.t 7 [])⟩,
    ⟨some 30, none, .mv false (.t 8 [])⟩,
    ⟨some 31, none, .call 14 [(.t 29 [7]), (.t 30 [8])]⟩,
    ⟨some 9, none, .take false (.t 31 [])⟩] [29, 30, 31])
  (.seq (.seq (.region [⟨some 32, none, .mv false (.t 9 [])⟩,
     ⟨some 33, none, .mv false (.t 6 [])⟩,
     ⟨some 34, none, .eqB true (.t 32 []) (.t 33 [])⟩] [6, 9, 32, 33])
   (.cond (.t 34 [])
    (.seq (.region [⟨some 4, none, .take false (.c (.bool false))⟩] [0, 1, 7, 8, 34])
    .ret)
    .skip))
  (.seq (.seq (.region [⟨some 35, none, .mv false (.t 7 [])⟩,
     ⟨some 36, none, .mv false (.t 0 [])⟩,
     ⟨some 37, none, .call 13 [(.t 36 [])]⟩,
     ⟨some 38, none, .call 15 [(.t 35 [7]), (.t 37 [])]⟩,
     ⟨some 39, none, .un .not (.t 38 [])⟩] [0, 7, 34, 35, 36, 37, 38])
   (.cond (.t 39 [])
    (.seq (.region [⟨some 4, none, .take false (.c (.bool false))⟩] [1, 8, 39])
    .ret)
    .skip))
  (.seq (.seq (.region [⟨some 40, none, .mv false (.t 8 [])⟩,
     ⟨some 41, none, .mv false (.t 1 [])⟩,
     ⟨some 42, none, .call 13 [(.t 41 [])]⟩,
     ⟨some 43, none, .call 15 [(.t 40 [8]), (.t 42 [])]⟩,
     ⟨some 44, none, .un .not (.t 43 [])⟩] [1, 8, 39, 40, 41, 42, 43])
   (.cond (.t 44 [])
    (.seq (.region [⟨some 4, none, .take false (.c (.bool false))⟩] [44])
    .ret)
    .skip))
  (.seq (.region [⟨some 4, none, .take false (.c (.bool true))⟩] [44])
  .ret)))))))))))))),
  [(4, none)], [(false, .deep)]⟩

def a_laws_szStepS : AFunc := ⟨[false, false], 27,
  (.seq (.region [⟨some 4, none, .take false (.c (I 0))⟩] [4])
  (.seq (.region [⟨some 6, none, .mv false (.t 1 [])⟩,
    ⟨some 7, none, .mv false (.t 0 [])⟩,
    ⟨some 8, none, .len (.t 7 [])⟩,
    ⟨some 9, none, .bin .sub (.t 6 []) (.t 8 [])⟩,
    ⟨some 1, none, .take false (.t 9 [])⟩] [6, 7, 8, 9])
  (.seq (.seq (.region [⟨some 10, none, .mv false (.t 1 [])⟩,
     ⟨some 11, none, .bin .lss (.t 10 []) (.c (I 0))⟩] [10])
   (.cond (.t 11 [])
    (.seq (.region [⟨some 4, none, .take false (.c (I (-1)))⟩] [0, 1, 11])
    .ret)
    .skip))
  (.seq (.seq (.region [⟨some 5, none, .take false (.c (I 0))⟩] [11])
   (.block 0 (.pre [.kill [4, 12, 13, 14, 15, 16, 17, 18, 19, 20, 21, 22, 23, 24, 25]] (.loop (.seq (.seq (.region [⟨some 12, none, .mv false (.t 5 [])⟩,
        ⟨some 13, none, .mv false (.t 0 [])⟩,
        ⟨some 14, none, .len (.t 13 [])⟩,
        ⟨some 15, none, .bin .lss (.t 12 []) (.t 14 [])⟩] [12, 13, 14])
      (.cond (.t 15 [])
       .skip
       (.exit 0)))
     (.seq (.block 1 (.seq (.region [⟨some 18, none, .mv false (.t 0 [])⟩,
         ⟨some 19, none, .mv false (.t 5 [])⟩,
         ⟨some 20, none, .iaddr 3 (.t 18 []) (.t 19 [])⟩,
         ⟨some 21, none, .load (some 3) (.t 20 [])⟩,
         ⟨some 22, none, .mv false (.t 1 [])⟩,
         ⟨some 23, none, .call 59 [(.t 21 []), (.t 22 [])]⟩,
         ⟨some 1, none, .take false (.t 23 [])⟩] [15, 18, 19, 20, 21, 22, 23])
       (.seq (.region [⟨some 24, none, .mv false (.t 1 [])⟩,
         ⟨some 25, none, .bin .lss (.t 24 []) (.c (I 0))⟩] [24])
       (.cond (.t 25 [])
        (.seq (.region [⟨some 4, none, .take false (.c (I (-1)))⟩] [0, 1, 5, 25])
        .ret)
        .skip))))
     (.region [⟨some 16, none, .mv false (.t 5 [])⟩,
      ⟨some 17, none, .bin .add (.t 16 []) (.c (I 1))⟩,
      ⟨some 5, none, .take false (.t 17 [])⟩] [16, 17, 25])))))))
  (.seq (.region [⟨some 26, none, .mv false (.t 1 [])⟩,
    ⟨some 4, none, .take false (.t 26 [])⟩] [0, 1, 5, 15, 26])
  .ret))))),
  [(4, none)], [(false, .deep)]⟩

def a_laws_toStepS : AFunc := ⟨[false], 23,
  (.seq (.region [⟨some 2, none, .take false (.c (Z 3))⟩] [2])
  (.seq (.region [⟨some 5, none, .mv false (.t 0 [])⟩,
    ⟨some 6, none, .len (.t 5 [])⟩,
    ⟨some 7, none, .make .deep 3 [I0, S0, I0] (.t 6 [])⟩,
    ⟨some 3, none, .take false (.t 7 [])⟩] [5, 6, 7])
  (.seq (.seq (.region [⟨some 4, none, .take false (.c (I 0))⟩] [])
   (.block 0 (.pre [.kill [8, 9, 10, 11, 12, 13, 14, 15, 16, 17, 18, 19, 20, 21]] (.loop (.seq (.seq (.region [⟨some 8, none, .mv false (.t 4 [])⟩,
        ⟨some 9, none, .mv false (.t 0 [])⟩,
        ⟨some 10, none, .len (.t 9 [])⟩,
        ⟨some 11, none, .bin .lss (.t 8 []) (.t 10 [])⟩] [8, 9, 10])
      (.cond (.t 11 [])
       .skip
       (.exit 0)))
     (.seq (.block 1 (.region [⟨some 14, none, .mv false (.t 3 [])⟩,
        ⟨some 15, none, .mv false (.t 4 [])⟩,
        ⟨some 16, none, .mv false (.t 0 [])⟩,
        ⟨some 17, none, .mv false (.t 4 [])⟩,
        ⟨some 18, none, .iaddr 3 (.t 16 []) (.t 17 [])⟩,
        ⟨some 19, none, .load (some 3) (.t 18 [])⟩,
        ⟨some 20, none, .call 60 [(.t 19 [])]⟩,
        ⟨some 21, none, .iaddr 3 (.t 14 [3]) (.t 15 [])⟩,
        ⟨none, none, .store 3 (.t 21 [3]) (.t 20 [])⟩] [11, 14, 15, 16, 17, 18, 19, 20]))
     (.region [⟨some 12, none, .mv false (.t 4 [])⟩,
      ⟨some 13, none, .bin .add (.t 12 []) (.c (I 1))⟩,
      ⟨some 4, none, .take false (.t 13 [])⟩] [12, 13])))))))
  (.seq (.region [⟨some 22, none, .mv false (.t 3 [])⟩,
    ⟨some 2, none, .take false (.t 22 [3])⟩] [0, 3, 4, 11, 22])
  .ret)))),
  [(2, none)], [(false, .deep)]⟩

def a_spec_IsPrefix : AFunc := ⟨[false, false], 26,
  (.seq (.region [⟨some 4, none, .take false (.c (.bool false))⟩] [4])
  (.seq (.seq (.region [⟨some 6, none, .mv false (.t 0 [])⟩,
     ⟨some 7, none, .len (.t 6 [])⟩,
     ⟨some 8, none, .mv false (.t 1 [])⟩,
     ⟨some 9, none, .len (.t 8 [])⟩,
     ⟨some 10, none, .bin .gtr (.t 7 []) (.t 9 [])⟩] [6, 7, 8, 9])
   (.cond (.t 10 [])
    (.seq (.region [⟨some 4, none, .take false (.c (.bool false))⟩] [0, 1, 10])
    .ret)
    .skip))
  (.seq (.seq (.region [⟨some 5, none, .take false (.c (I 0))⟩] [10])
   (.block 0 (.pre [.kill [4, 11, 12, 13, 14, 15, 16, 17, 18, 19, 20, 21, 22, 23, 24, 25]] (.loop (.seq (.seq (.region [⟨some 11, none, .mv false (.t 5 [])⟩,
        ⟨some 12, none, .mv false (.t 0 [])⟩,
        ⟨some 13, none, .len (.t 12 [])⟩,
        ⟨some 14, none, .bin .lss (.t 11 []) (.t 13 [])⟩] [11, 12, 13])
      (.cond (.t 14 [])
       .skip
       (.exit 0)))
     (.seq (.block 1 (.seq (.region [⟨some 17, none, .mv false (.t 0 [])⟩,
         ⟨some 18, none, .mv false (.t 5 [])⟩,
         ⟨some 19, none, .iaddr 3 (.t 17 []) (.t 18 [])⟩,
         ⟨some 20, none, .load (some 3) (.t 19 [])⟩,
         ⟨some 21, none, .mv false (.t 1 [])⟩,
         ⟨some 22, none, .mv false (.t 5 [])⟩,
         ⟨some 23, none, .iaddr 3 (.t 21 []) (.t 22 [])⟩,
         ⟨some 24, none, .load (some 3) (.t 23 [])⟩,
         ⟨some 25, none, .eqAgg true [0, 2, 0] (.t 20 []) (.t 24 [])⟩] [14, 17, 18, 19, 20, 21, 22, 23, 24])
       (.cond (.t 25 [])
        (.seq (.region [⟨some 4, none, .take false (.c (.bool false))⟩] [0, 1, 5, 25])
        .ret)
        .skip)))
     (.region [⟨some 15, none, .mv false (.t 5 [])⟩,
      ⟨some 16, none, .bin .add (.t 15 []) (.c (I 1))⟩,
      ⟨some 5, none, .take false (.t 16 [])⟩] [15, 16, 25])))))))
  (.seq (.region [⟨some 4, none, .take false (.c (.bool true))⟩] [0, 1, 5, 14])
  .ret)))),
  [(4, none)], [(false, .deep)]⟩

def a_impl_IsPrefix : AFunc := ⟨[false, false], 26,
  (.seq (.region [⟨some 4, none, .take false (.c (.bool false))⟩] [4])
  (.seq (.seq (.region [⟨some 6, none, .mv false (.t 0 [])⟩,
     ⟨some 7, none, .len (.t 6 [])⟩,
     ⟨some 8, none, .mv false (.t 1 [])⟩,
     ⟨some 9, none, .len (.t 8 [])⟩,
     ⟨some 10, none, .bin .gtr (.t 7 []) (.t 9 [])⟩] [6, 7, 8, 9])
   (.cond (.t 10 [])
    (.seq (.region [⟨some 4, none, .take false (.c (.bool false))⟩] [0, 1, 10])
    .ret)
    .skip))
  (.seq (.seq (.region [⟨some 11, none, .mv false (.t 0 [])⟩,
     ⟨some 12, none, .len (.t 11 [])⟩,
     ⟨some 13, none, .take false (.c (I 0))⟩] [10, 11])
   (.block 0 (.pre [.kill [4, 5, 14, 15, 16, 17, 18, 19, 20, 21, 22, 23, 24, 25]] (.loop (.seq (.region [⟨some 14, none, .bin .lss (.t 13 []) (.t 12 [])⟩] [])
     (.seq (.cond (.t 14 [])
       .skip
       (.exit 0))
     (.seq (.block 1 (.seq (.region [⟨some 15, none, .mv false (.t 13 [])⟩,
         ⟨some 5, none, .take false (.t 15 [])⟩] [14, 15])
       (.seq (.region [⟨some 16, none, .mv false (.t 0 [])⟩,
         ⟨some 17, none, .mv false (.t 5 [])⟩,
         ⟨some 18, none, .iaddr 3 (.t 16 []) (.t 17 [])⟩,
         ⟨some 19, none, .load (some 3) (.t 18 [])⟩,
         ⟨some 20, none, .mv false (.t 1 [])⟩,
         ⟨some 21, none, .mv false (.t 5 [])⟩,
         ⟨some 22, none, .iaddr 3 (.t 20 []) (.t 21 [])⟩,
         ⟨some 23, none, .load (some 3) (.t 22 [])⟩,
         ⟨some 24, none, .eqAgg true [0, 2, 0] (.t 19 []) (.t 23 [])⟩] [5, 16, 17, 18, 19, 20, 21, 22, 23])
       (.cond (.t 24 [])
        (.seq (.region [⟨some 4, none, .take false (.c (.bool false))⟩] [0, 1, 12, 13, 24])
        .ret)
        .skip))))
     (.region [⟨some 25, none, .bin .add (.t 13 []) (.c (I 1))⟩,
      ⟨some 13, none, .mv false (.t 25 [])⟩] [24, 25]))))))))
  (.seq (.region [⟨some 4, none, .take false (.c (.bool true))⟩] [0, 1, 12, 13, 14])
  .ret)))),
  [(4, none)], [(false, .deep)]⟩

def a_laws_eqStepS : AFunc := ⟨[false, false], 27,
  (.seq (.region [⟨some 4, none, .take false (.c (.bool false))⟩] [4])
  (.seq (.seq (.region [⟨some 6, none, .mv false (.t 0 [])⟩,
     ⟨some 7, none, .len (.t 6 [])⟩,
     ⟨some 8, none, .mv false (.t 1 [])⟩,
     ⟨some 9, none, .len (.t 8 [])⟩,
     ⟨some 10, none, .bin .neq (.t 7 []) (.t 9 [])⟩] [6, 7, 8, 9])
   (.cond (.t 10 [])
    (.seq (.region [⟨some 4, none, .take false (.c (.bool false))⟩] [0, 1, 10])
    .ret)
    .skip))
  (.seq (.seq (.region [⟨some 5, none, .take false (.c (I 0))⟩] [10])
   (.block 0 (.pre [.kill [4, 11, 12, 13, 14, 15, 16, 17, 18, 19, 20, 21, 22, 23, 24, 25, 26]] (.loop (.seq (.seq (.region [⟨some 11, none, .mv false (.t 5 [])⟩,
        ⟨some 12, none, .mv false (.t 0 [])⟩,
        ⟨some 13, none, .len (.t 12 [])⟩,
        ⟨some 14, none, .bin .lss (.t 11 []) (.t 13 [])⟩] [11, 12, 13])
      (.cond (.t 14 [])
       .skip
       (.exit 0)))
     (.seq (.block 1 (.seq (.region [⟨some 17, none, .mv false (.t 0 [])⟩,
         ⟨some 18, none, .mv false (.t 5 [])⟩,
         ⟨some 19, none, .iaddr 3 (.t 17 []) (.t 18 [])⟩,
         ⟨some 20, none, .load (some 3) (.t 19 [])⟩,
         ⟨some 21, none, .mv false (.t 1 [])⟩,
         ⟨some 22, none, .mv false (.t 5 [])⟩,
         ⟨some 23, none, .iaddr 3 (.t 21 []) (.t 22 [])⟩,
         ⟨some 24, none, .load (some 3) (.t 23 [])⟩,
         ⟨some 25, none, .call 61 [(.t 20 []), (.t 24 [])]⟩,
         ⟨some 26, none, .un .not (.t 25 [])⟩] [14, 17, 18, 19, 20, 21, 22, 23, 24, 25])
       (.cond (.t 26 [])
        (.seq (.region [⟨some 4, none, .take false (.c (.bool false))⟩] [0, 1, 5, 26])
        .ret)
        .skip)))
     (.region [⟨some 15, none, .mv false (.t 5 [])⟩,
      ⟨some 16, none, .bin .add (.t 15 []) (.c (I 1))⟩,
      ⟨some 5, none, .take false (.t 16 [])⟩] [15, 16, 26])))))))
  (.seq (.region [⟨some 4, none, .take false (.c (.bool true))⟩] [0, 1, 5, 14])
  .ret)))),
  [(4, none)], [(false, .deep)]⟩

def a_laws_szStep : AFunc := ⟨[true, false], 13,
  (.seq (.region [⟨some 2, none, .box false (.t 0 [])⟩,
    ⟨some 4, none, .take false (.c (I 0))⟩] [0, 4])
  (.seq (.region [⟨some 5, none, .mv false (.t 1 [])⟩,
    ⟨some 6, none, .faddr 1 (.t 2 [])⟩,
    ⟨some 7, none, .load none (.t 6 [2])⟩,
    ⟨some 8, none, .lenS (.t 7 [])⟩,
    ⟨some 9, none, .bin .sub (.t 5 []) (.t 8 [])⟩,
    ⟨some 1, none, .take false (.t 9 [])⟩] [2, 5, 7, 8, 9])
  (.seq (.seq (.region [⟨some 10, none, .mv false (.t 1 [])⟩,
     ⟨some 11, none, .bin .lss (.t 10 []) (.c (I 0))⟩] [10])
   (.cond (.t 11 [])
    (.seq (.region [⟨some 4, none, .take false (.c (I (-1)))⟩] [1, 11])
    .ret)
    .skip))
  (.seq (.region [⟨some 12, none, .mv false (.t 1 [])⟩,
    ⟨some 4, none, .take false (.t 12 [])⟩] [1, 11, 12])
  .ret)))),
  [(4, none)], [(false, .deep)]⟩

def a_laws_toStep : AFunc := ⟨[true], 14,
  (.seq (.region [⟨some 1, none, .box false (.t 0 [])⟩,
    ⟨some 2, none, .alloc false [I0, S0, I0] [.deep, .deep, .deep]⟩] [0])
  (.seq (.region [⟨some 3, none, .alloc false [I0, S0, I0] [.deep, .deep, .deep]⟩] [])
  (.seq (.region [⟨some 4, none, .faddr 0 (.t 1 [])⟩,
    ⟨some 5, none, .load none (.t 4 [1])⟩,
    ⟨some 6, none, .faddr 0 (.t 3 [])⟩,
    ⟨none, none, .store 1 (.t 6 [3]) (.t 5 [])⟩] [4, 5, 6])
  (.seq (.region [⟨some 7, none, .faddr 1 (.t 1 [])⟩,
    ⟨some 8, none, .load none (.t 7 [1])⟩,
    ⟨some 9, none, .faddr 1 (.t 3 [])⟩,
    ⟨none, none, .store 1 (.t 9 [3]) (.t 8 [])⟩] [7, 8, 9])
  (.seq (.region [⟨some 10, none, .faddr 2 (.t 1 [])⟩,
    ⟨some 11, none, .load none (.t 10 [1])⟩,
    ⟨some 12, none, .faddr 2 (.t 3 [])⟩,
    ⟨none, none, .store 1 (.t 12 [3]) (.t 11 [])⟩] [1, 11, 12])
  (.seq (.region [⟨some 13, none, .load (some 3) (.t 3 [3])⟩,
    ⟨none, none, .store 3 (.t 2 [2]) (.t 13 [])⟩] [3, 13])
  .ret)))))),
  [(2, some 3)], [(true, .deep)]⟩

def a_laws_eqStep : AFunc := ⟨[true, true], 20,
  (.seq (.region [⟨some 2, none, .box false (.t 0 [])⟩,
    ⟨some 3, none, .box false (.t 1 [])⟩,
    ⟨some 4, none, .take false (.c (.bool false))⟩] [0, 1, 4])
  (.seq (.seq (.region [⟨some 5, none, .faddr 0 (.t 2 [])⟩,
     ⟨some 6, none, .load none (.t 5 [2])⟩,
     ⟨some 7, none, .faddr 0 (.t 3 [])⟩,
     ⟨some 8, none, .load none (.t 7 [3])⟩,
     ⟨some 9, none, .bin .neq (.t 6 []) (.t 8 [])⟩] [5, 6, 7, 8])
   (.cond (.t 9 [])
    (.seq (.region [⟨some 4, none, .take false (.c (.bool false))⟩] [2, 3, 9])
    .ret)
    .skip))
  (.seq (.seq (.region [⟨some 10, none, .faddr 1 (.t 2 [])⟩,
     ⟨some 11, none, .load none (.t 10 [2])⟩,
     ⟨some 12, none, .faddr 1 (.t 3 [])⟩,
     ⟨some 13, none, .load none (.t 12 [3])⟩,
     ⟨some 14, none, .bin .neq (.t 11 []) (.t 13 [])⟩] [9, 10, 11, 12, 13])
   (.cond (.t 14 [])
    (.seq (.region [⟨some 4, none, .take false (.c (.bool false))⟩] [2, 3, 14])
    .ret)
    .skip))
  (.seq (.seq (.region [⟨some 15, none, .faddr 2 (.t 2 [])⟩,
     ⟨some 16, none, .load none (.t 15 [2])⟩,
     ⟨some 17, none, .faddr 2 (.t 3 [])⟩,
     ⟨some 18, none, .load none (.t 17 [3])⟩,
     ⟨some 19, none, .bin .neq (.t 16 []) (.t 18 [])⟩] [2, 3, 14, 16, 18])
   (.cond (.t 19 [])
    (.seq (.region [⟨some 4, none, .take false (.c (.bool false))⟩] [19])
    .ret)
    .skip))
  (.seq (.region [⟨some 4, none, .take false (.c (.bool true))⟩] [19])
  .ret))))),
  [(4, none)], [(false, .deep)]⟩

def a_laws_FnExactIsPath : AFunc := ⟨[false], 27,
  (.seq (.region [⟨some 2, none, .take false (.c (.bool false))⟩] [2])
  (.seq (.region [⟨some 3, none, .take false (.c (I 1048576))⟩] [])
  (.seq (.region [⟨some 7, none, .mv false (.t 0 [])⟩,
    ⟨some 8, none, .mv false (.t 3 [])⟩,
    ⟨some 9, none, .call 11 [(.t 7 []), (.t 8 [])]⟩,
    ⟨some 3, none, .take false (.t 9 [])⟩] [7, 8, 9])
  (.seq (.seq (.region [⟨some 10, none, .mv false (.t 3 [])⟩,
     ⟨some 11, none, .bin .lss (.t 10 []) (.c (I 0))⟩] [3, 10])
   (.cond (.t 11 [])
    (.seq (.region [⟨some 2, none, .take false (.c (.bool true))⟩] [0, 11])
    .ret)
    .skip))
  (.seq (.region [⟨some 12, none, .mv false (.t 0 [])⟩,
    ⟨some 13, none, .call 13 [(.t 12 [])]⟩,
    ⟨some 14, none, .call 16 [(.t 13 [])]⟩,
    ⟨some 4, none, .take false (.t 14 [])⟩] [11, 12, 13, 14])
  (.seq (.region [⟨some 15, none, .mv false (.t 0 [])⟩,
    ⟨some 16, none, .call 13 [(.t 15 [])]⟩,
    ⟨some 5, none, .take false (.t 16 [])⟩] [15, 16])
  (.seq (.region [⟨some 17, none, .mv false (.t 5 [])⟩,
    ⟨some 18, none, .call 17 [(.t 17 [5])]⟩,
    ⟨some 6, none, .take false (.t 18 [])⟩] [17, 18])
  (.seq (.seq (.region [⟨some 19, none, .mv false (.t 6 [])⟩,
     ⟨some 20, none, .mv false (.t 4 [])⟩,
     ⟨some 21, none, .eqB true (.t 19 []) (.t 20 [])⟩] [4, 6, 19, 20])
   (.cond (.t 21 [])
    (.seq (.region [⟨some 2, none, .take false (.c (.bool false))⟩] [0, 5, 21])
    .ret)
    .skip))
  (.seq (.seq (.region [⟨some 22, none, .mv false (.t 5 [])⟩,
     ⟨some 23, none, .mv false (.t 0 [])⟩,
     ⟨some 24, none, .call 13 [(.t 23 [])]⟩,
     ⟨some 25, none, .call 15 [(.t 22 [5]), (.t 24 [])]⟩,
     ⟨some 26, none, .un .not (.t 25 [])⟩] [0, 5, 21, 22, 23, 24, 25])
   (.cond (.t 26 [])
    (.seq (.region [⟨some 2, none, .take false (.c (.bool false))⟩] [26])
    .ret)
    .skip))
  (.seq (.region [⟨some 2, none, .take false (.c (.bool true))⟩] [26])
  .ret)))))))))),
  [(2, none)], [(false, .deep)]⟩

def a_spec_IsPath : AFunc := ⟨[false], 43,
  (.seq (.region [⟨some 2, none, .take false (.c (.bool false))⟩] [2])
  (.seq (.seq (.region [⟨some 3, none, .take false (.c (I 0))⟩] [])
   (.block 0 (.pre [.kill [2, 4, 5, 6, 7, 8, 9, 10, 11, 12, 13, 14, 15, 16, 17, 18, 19, 20, 21, 22, 23, 24, 25, 26, 27, 28, 29, 30, 31, 32, 33, 34, 35, 36, 37, 38, 39]] (.loop (.seq (.seq (.region [⟨some 5, none, .mv false (.t 3 [])⟩,
        ⟨some 6, none, .mv false (.t 0 [])⟩,
        ⟨some 7, none, .len (.t 6 [])⟩,
        ⟨some 8, none, .bin .lss (.t 5 []) (.t 7 [])⟩] [5, 6, 7])
      (.cond (.t 8 [])
       .skip
       (.exit 0)))
     (.seq (.block 1 (.seq (.region [⟨some 11, none, .mv false (.t 0 [])⟩,
         ⟨some 12, none, .mv false (.t 3 [])⟩,
         ⟨some 13, none, .iaddr 3 (.t 11 []) (.t 12 [])⟩,
         ⟨some 14, none, .load (some 3) (.t 13 [])⟩,
         ⟨some 4, none, .alloc false [I0, S0, I0] [.deep, .deep, .deep]⟩,
         ⟨none, none, .store 3 (.t 4 [4]) (.t 14 [])⟩] [8, 11, 12, 13, 14])
       (.seq (.region [⟨some 15, none, .faddr 0 (.t 4 [])⟩,
         ⟨some 16, none, .load none (.t 15 [4])⟩] [15])
       (.block 2 (.seq (.seq (.region [⟨some 18, none, .bin .eql (.t 16 []) (.c (I 1))⟩,
           ⟨some 17, none, .take false (.t 18 [])⟩] [18])
         (.cond (.t 17 [])
          .skip
          (.region [⟨some 19, none, .bin .eql (.t 16 []) (.c (I 2))⟩,
           ⟨some 17, none, .take false (.t 19 [])⟩] [19])))
        (.cond (.t 17 [])
         (.seq (.region [⟨some 20, none, .faddr 1 (.t 4 [])⟩,
           ⟨some 21, none, .load none (.t 20 [4])⟩,
           ⟨some 22, none, .call 62 [(.t 21 [])]⟩,
           ⟨some 23, none, .un .not (.t 22 [])⟩,
           ⟨some 24, none, .mv false (.t 23 [])⟩,
           ⟨some 25, some (24, false), .faddr 2 (.t 4 [])⟩,
           ⟨some 26, some (24, false), .load none (.t 25 [4])⟩,
           ⟨some 27, some (24, false), .bin .neq (.t 26 []) (.c (I 0))⟩,
           ⟨some 28, none, .pick (.t 24 []) (.c (.bool true)) (.t 27 [])⟩] [4, 16, 17, 21, 22, 23, 24, 26, 27])
         (.cond (.t 28 [])
          (.seq (.region [⟨some 2, none, .take false (.c (.bool false))⟩] [0, 3, 28])
          .ret)
          .skip))
         (.seq (.region [⟨some 30, none, .bin .eql (.t 16 []) (.c (I 3))⟩,
           ⟨some 29, none, .take false (.t 30 [])⟩] [16, 17, 30])
         (.cond (.t 29 [])
          (.seq (.region [⟨some 31, none, .faddr 1 (.t 4 [])⟩,
            ⟨some 32, none, .load none (.t 31 [4])⟩,
            ⟨some 33, none, .bin .neq (.t 32 []) (.c (.str ⟨#[]⟩))⟩,
            ⟨some 34, none, .mv false (.t 33 [])⟩,
            ⟨some 35, some (34, false), .faddr 2 (.t 4 [])⟩,
            ⟨some 36, some (34, false), .load none (.t 35 [4])⟩,
            ⟨some 37, some (34, false), .call 63 [(.t 36 []), (.c (I 0)), (.c (I 1000))]⟩,
            ⟨some 38, some (34, false), .un .not (.t 37 [])⟩,
            ⟨some 39, none, .pick (.t 34 []) (.c (.bool true)) (.t 38 [])⟩] [4, 29, 32, 33, 34, 36, 37, 38])
          (.cond (.t 39 [])
           (.seq (.region [⟨some 2, none, .take false (.c (.bool false))⟩] [0, 3, 39])
           .ret)
           .skip))
          (.seq (.region [⟨some 2, none, .take false (.c (.bool false))⟩] [0, 3, 4, 29])
          .ret)))))))))
     (.region [⟨some 9, none, .mv false (.t 3 [])⟩,
      ⟨some 10, none, .bin .add (.t 9 []) (.c (I 1))⟩,
      ⟨some 3, none, .take false (.t 10 [])⟩] [9, 10, 28, 39])))))))
  (.seq (.region [⟨some 40, none, .mv false (.t 0 [])⟩,
    ⟨some 41, none, .len (.t 40 [])⟩,
    ⟨some 42, none, .bin .leq (.t 41 []) (.c (I 12))⟩,
    ⟨some 2, none, .take false (.t 42 [])⟩] [0, 3, 8, 40, 41, 42])
  .ret))),
  [(2, none)], [(false, .deep)]⟩

def a_impl_IsPath : AFunc := ⟨[false], 44,
  (.seq (.region [⟨some 2, none, .take false (.c (.bool false))⟩] [2])
  (.seq (.seq (.region [⟨some 5, none, .mv false (.t 0 [])⟩,
     ⟨some 6, none, .len (.t 5 [])⟩,
     ⟨some 7, none, .bin .gtr (.t 6 []) (.c (I 12))⟩] [5, 6])
   (.cond (.t 7 [])
    (.seq (.region [⟨some 2, none, .take false (.c (.bool false))⟩] [0, 7])
    .ret)
    .skip))
  (.seq (.seq (.region [⟨some 8, none, .mv false (.t 0 [])⟩,
     ⟨some 9, none, .len (.t 8 [])⟩,
     ⟨some 10, none, .take false (.c (I 0))⟩] [0, 7])
   (.block 0 (.pre [.kill [2, 4, 11, 12, 13, 14, 15, 16, 17, 18, 19, 20, 21, 22, 23, 24, 25, 26, 27, 28, 29, 30, 31, 32, 33, 34, 35, 36, 37, 38, 39, 40, 41, 42, 43]] (.loop (.seq (.region [⟨some 11, none, .bin .lss (.t 10 []) (.t 9 [])⟩] [])
     (.seq (.cond (.t 11 [])
       .skip
       (.exit 0))
     (.seq (.block 1 (.seq (.region [⟨some 12, none, .iaddr 3 (.t 8 []) (.t 10 [])⟩,
         ⟨some 13, none, .load (some 3) (.t 12 [])⟩,
         ⟨some 4, none, .alloc false [I0, S0, I0] [.deep, .deep, .deep]⟩,
         ⟨none, none, .store 3 (.t 4 [4]) (.t 13 [])⟩] [11, 12, 13])
       (.seq (.region [⟨some 14, none, .faddr 0 (.t 4 [])⟩,
         ⟨some 15, none, .load none (.t 14 [4])⟩] [14])
       (.block 2 (.seq (.seq (.region [⟨some 17, none, .bin .eql (.t 15 []) (.c (I 1))⟩,
           ⟨some 16, none, .take false (.t 17 [])⟩] [17])
         (.cond (.t 16 [])
          .skip
          (.region [⟨some 18, none, .bin .eql (.t 15 []) (.c (I 2))⟩,
           ⟨some 16, none, .take false (.t 18 [])⟩] [18])))
        (.cond (.t 16 [])
         (.seq (.region [⟨some 19, none, .faddr 1 (.t 4 [])⟩,
           ⟨some 20, none, .load none (.t 19 [4])⟩,
           ⟨some 21, none, .call 64 [(.t 20 [])]⟩,
           ⟨some 22, none, .un .not (.t 21 [])⟩,
           ⟨some 23, none, .mv false (.t 22 [])⟩,
           ⟨some 24, some (23, false), .faddr 2 (.t 4 [])⟩,
           ⟨some 25, some (23, false), .load none (.t 24 [4])⟩,
           ⟨some 26, some (23, false), .bin .neq (.t 25 []) (.c (I 0))⟩,
           ⟨some 27, none, .pick (.t 23 []) (.c (.bool true)) (.t 26 [])⟩] [4, 15, 16, 20, 21, 22, 23, 25, 26])
         (.cond (.t 27 [])
          (.seq (.region [⟨some 2, none, .take false (.c (.bool false))⟩] [8, 9, 10, 27])
          .ret)
          .skip))
         (.seq (.region [⟨some 29, none, .bin .eql (.t 15 []) (.c (I 3))⟩,
           ⟨some 28, none, .take false (.t 29 [])⟩] [15, 16, 29])
         (.cond (.t 28 [])
          (.seq (.region [⟨some 30, none, .faddr 1 (.t 4 [])⟩,
            ⟨some 31, none, .load none (.t 30 [4])⟩,
            ⟨some 32, none, .bin .neq (.t 31 []) (.c (.str ⟨#[]⟩))⟩,
            ⟨some 33, none, .mv false (.t 32 [])⟩,
            ⟨some 34, some (33, false), .faddr 2 (.t 4 [])⟩,
            ⟨some 35, some (33, false), .load none (.t 34 [4])⟩,
            ⟨some 36, some (33, false), .bin .lss (.t 35 []) (.c (I 0))⟩,
            ⟨some 37, none, .pick (.t 33 []) (.c (.bool true)) (.t 36 [])⟩,
            ⟨some 38, none, .mv false (.t 37 [])⟩,
            ⟨some 39, some (38, false), .faddr 2 (.t 4 [])⟩,
            ⟨some 40, some (38, false), .load none (.t 39 [4])⟩,
            ⟨some 41, some (38, false), .bin .gtr (.t 40 []) (.c (I 1000))⟩,
            ⟨some 42, none, .pick (.t 38 []) (.c (.bool true)) (.t 41 [])⟩] [4, 28, 31, 32, 33, 35, 36, 37, 38, 40, 41])
          (.cond (.t 42 [])
           (.seq (.region [⟨some 2, none, .take false (.c (.bool false))⟩] [8, 9, 10, 42])
           .ret)
           .skip))
          (.seq (.region [⟨some 2, none, .take false (.c (.bool false))⟩] [4, 8, 9, 10, 28])
          .ret)))))))))
     (.region [⟨some 43, none, .bin .add (.t 10 []) (.c (I 1))⟩,
      ⟨some 10, none, .mv false (.t 43 [])⟩] [27, 42, 43]))))))))
  (.seq (.region [⟨some 2, none, .take false (.c (.bool true))⟩] [8, 9, 10, 11])
  .ret)))),
  [(2, none)], [(false, .deep)]⟩

def a_spec_IsName : AFunc := ⟨[false], 42,
  (.seq (.region [⟨some 2, none, .take false (.c (.bool false))⟩] [2])
  (.seq (.seq (.region [⟨some 3, none, .take false (.c (I 0))⟩] [])
   (.block 0 (.pre [.kill [2, 4, 5, 6, 7, 8, 9, 10, 11, 12, 13, 14, 15, 16, 17, 18, 19, 20, 21, 22, 23, 24, 25, 26, 27, 28, 29, 30, 31, 32, 33, 34, 35, 36, 37, 38]] (.loop (.seq (.seq (.region [⟨some 5, none, .mv false (.t 3 [])⟩,
        ⟨some 6, none, .mv false (.t 0 [])⟩,
        ⟨some 7, none, .lenS (.t 6 [])⟩,
        ⟨some 8, none, .bin .lss (.t 5 []) (.t 7 [])⟩] [5, 6, 7])
      (.cond (.t 8 [])
       .skip
       (.exit 0)))
     (.seq (.block 1 (.seq (.region [⟨some 11, none, .mv false (.t 0 [])⟩,
         ⟨some 12, none, .mv false (.t 3 [])⟩,
         ⟨some 13, none, .index (.t 11 []) (.t 12 [])⟩,
         ⟨some 14, none, .bin .geq (.t 13 []) (.c (.int .u8 97))⟩,
         ⟨some 15, none, .mv false (.t 14 [])⟩,
         ⟨some 16, some (15, true), .mv false (.t 0 [])⟩,
         ⟨some 17, some (15, true), .mv false (.t 3 [])⟩,
         ⟨some 18, some (15, true), .index (.t 16 []) (.t 17 [])⟩,
         ⟨some 19, some (15, true), .bin .leq (.t 18 []) (.c (.int .u8 122))⟩,
         ⟨some 20, none, .pick (.t 15 []) (.t 19 []) (.c (.bool false))⟩,
         ⟨some 4, none, .take false (.t 20 [])⟩] [8, 11, 12, 13, 14, 15, 16, 17, 18, 19, 20])
       (.seq (.region [⟨some 21, none, .mv false (.t 4 [])⟩,
         ⟨some 22, none, .un .not (.t 21 [])⟩,
         ⟨some 23, none, .mv false (.t 22 [])⟩,
         ⟨some 24, some (23, true), .mv false (.t 3 [])⟩,
         ⟨some 25, some (23, true), .bin .eql (.t 24 []) (.c (I 0))⟩,
         ⟨some 26, some (23, true), .mv false (.t 25 [])⟩,
         ⟨some 27, some (26, false), .mv false (.t 0 [])⟩,
         ⟨some 28, some (26, false), .mv false (.t 3 [])⟩,
         ⟨some 29, some (26, false), .index (.t 27 []) (.t 28 [])⟩,
         ⟨some 30, some (26, false), .bin .lss (.t 29 []) (.c (.int .u8 48))⟩,
         ⟨some 31, some (23, true), .pick (.t 26 []) (.c (.bool true)) (.t 30 [])⟩,
         ⟨some 32, some (23, true), .mv false (.t 31 [])⟩,
         ⟨some 33, some (32, false), .mv false (.t 0 [])⟩,
         ⟨some 34, some (32, false), .mv false (.t 3 [])⟩,
         ⟨some 35, some (32, false), .index (.t 33 []) (.t 34 [])⟩,
         ⟨some 36, some (32, false), .bin .gtr (.t 35 []) (.c (.int .u8 57))⟩,
         ⟨some 37, some (23, true), .pick (.t 32 []) (.c (.bool true)) (.t 36 [])⟩,
         ⟨some 38, none, .pick (.t 23 []) (.t 37 []) (.c (.bool false))⟩] [4, 21, 22, 23, 24, 25, 26, 27, 28, 29, 30, 31, 32, 33, 34, 35, 36, 37])
       (.cond (.t 38 [])
        (.seq (.region [⟨some 2, none, .take false (.c (.bool false))⟩] [0, 3, 38])
        .ret)
        .skip))))
     (.region [⟨some 9, none, .mv false (.t 3 [])⟩,
      ⟨some 10, none, .bin .add (.t 9 []) (.c (I 1))⟩,
      ⟨some 3, none, .take false (.t 10 [])⟩] [9, 10, 38])))))))
  (.seq (.region [⟨some 39, none, .mv false (.t 0 [])⟩,
    ⟨some 40, none, .lenS (.t 39 [])⟩,
    ⟨some 41, none, .call 63 [(.t 40 []), (.c (I 1)), (.c (I 4))]⟩,
    ⟨some 2, none, .take false (.t 41 [])⟩] [0, 3, 8, 39, 40, 41])
  .ret))),
  [(2, none)], [(false, .deep)]⟩

def a_spec_l1In : AFunc := ⟨[false, false, false], 15,
  (.seq (.region [⟨some 6, none, .take false (.c (.bool false))⟩] [6])
  (.seq (.region [⟨some 7, none, .mv false (.t 0 [])⟩,
    ⟨some 8, none, .mv false (.t 1 [])⟩,
    ⟨some 9, none, .bin .geq (.t 7 []) (.t 8 [])⟩,
    ⟨some 10, none, .mv false (.t 9 [])⟩,
    ⟨some 11, some (10, true), .mv false (.t 0 [])⟩,
    ⟨some 12, some (10, true), .mv false (.t 2 [])⟩,
    ⟨some 13, some (10, true), .bin .leq (.t 11 []) (.t 12 [])⟩,
    ⟨some 14, none, .pick (.t 10 []) (.t 13 []) (.c (.bool false))⟩,
    ⟨some 6, none, .take false (.t 14 [])⟩] [0, 1, 2, 7, 8, 9, 10, 11, 12, 13, 14])
  .ret)),
  [(6, none)], [(false, .deep)]⟩

def a_impl_IsName : AFunc := ⟨[false], 25,
  (.seq (.region [⟨some 2, none, .take false (.c (.bool false))⟩] [2])
  (.seq (.seq (.region [⟨some 4, none, .mv false (.t 0 [])⟩,
     ⟨some 5, none, .lenS (.t 4 [])⟩,
     ⟨some 6, none, .bin .eql (.t 5 []) (.c (I 0))⟩,
     ⟨some 7, none, .mv false (.t 6 [])⟩,
     ⟨some 8, some (7, false), .mv false (.t 0 [])⟩,
     ⟨some 9, some (7, false), .lenS (.t 8 [])⟩,
     ⟨some 10, some (7, false), .bin .gtr (.t 9 []) (.c (I 4))⟩,
     ⟨some 11, none, .pick (.t 7 []) (.c (.bool true)) (.t 10 [])⟩] [4, 5, 6, 7, 8, 9, 10])
   (.cond (.t 11 [])
    (.seq (.region [⟨some 2, none, .take false (.c (.bool false))⟩] [0, 11])
    .ret)
    .skip))
  (.seq (.seq (.region [⟨some 12, none, .mv false (.t 0 [])⟩,
     ⟨some 13, none, .lenS (.t 12 [])⟩,
     ⟨some 14, none, .take false (.c (I 0))⟩] [11, 12])
   (.block 0 (.pre [.kill [2, 3, 15, 16, 17, 18, 19, 20, 21, 22, 23, 24]] (.loop (.seq (.region [⟨some 15, none, .bin .lss (.t 14 []) (.t 13 [])⟩] [])
     (.seq (.cond (.t 15 [])
       .skip
       (.exit 0))
     (.seq (.block 1 (.seq (.region [⟨some 16, none, .mv false (.t 14 [])⟩,
         ⟨some 3, none, .take false (.t 16 [])⟩] [15, 16])
       (.seq (.region [⟨some 17, none, .mv false (.t 0 [])⟩,
         ⟨some 18, none, .mv false (.t 3 [])⟩,
         ⟨some 19, none, .index (.t 17 []) (.t 18 [])⟩,
         ⟨some 20, none, .mv false (.t 3 [])⟩,
         ⟨some 21, none, .bin .eql (.t 20 []) (.c (I 0))⟩,
         ⟨some 22, none, .call 95 [(.t 19 []), (.t 21 [])]⟩,
         ⟨some 23, none, .un .not (.t 22 [])⟩] [3, 17, 18, 19, 20, 21, 22])
       (.cond (.t 23 [])
        (.seq (.region [⟨some 2, none, .take false (.c (.bool false))⟩] [0, 13, 14, 23])
        .ret)
        .skip))))
     (.region [⟨some 24, none, .bin .add (.t 14 []) (.c (I 1))⟩,
      ⟨some 14, none, .mv false (.t 24 [])⟩] [23, 24]))))))))
  (.seq (.region [⟨some 2, none, .take false (.c (.bool true))⟩] [0, 13, 14, 15])
  .ret)))),
  [(2, none)], [(false, .deep)]⟩

def a_impl_nameByte : AFunc := ⟨[false, false], 23,
  (.seq (.region [⟨some 4, none, .take false (.c (.bool false))⟩] [4])
  (.seq (.region [⟨some 5, none, .mv false (.t 0 [])⟩,
    ⟨some 6, none, .bin .geq (.t 5 []) (.c (.int .u8 97))⟩,
    ⟨some 7, none, .mv false (.t 6 [])⟩,
    ⟨some 8, some (7, true), .mv false (.t 0 [])⟩,
    ⟨some 9, some (7, true), .bin .leq (.t 8 []) (.c (.int .u8 122))⟩,
    ⟨some 10, none, .pick (.t 7 []) (.t 9 []) (.c (.bool false))⟩,
    ⟨some 11, none, .mv false (.t 10 [])⟩,
    ⟨some 12, some (11, false), .mv false (.t 1 [])⟩,
    ⟨some 13, some (11, false), .un .not (.t 12 [])⟩,
    ⟨some 14, some (11, false), .mv false (.t 13 [])⟩,
    ⟨some 15, some (14, true), .mv false (.t 0 [])⟩,
    ⟨some 16, some (14, true), .bin .geq (.t 15 []) (.c (.int .u8 48))⟩,
    ⟨some 17, some (11, false), .pick (.t 14 []) (.t 16 []) (.c (.bool false))⟩,
    ⟨some 18, some (11, false), .mv false (.t 17 [])⟩,
    ⟨some 19, some (18, true), .mv false (.t 0 [])⟩,
    ⟨some 20, some (18, true), .bin .leq (.t 19 []) (.c (.int .u8 57))⟩,
    ⟨some 21, some (11, false), .pick (.t 18 []) (.t 20 []) (.c (.bool false))⟩,
    ⟨some 22, none, .pick (.t 11 []) (.c (.bool true)) (.t 21 [])⟩,
    ⟨some 4, none, .take false (.t 22 [])⟩] [0, 1, 5, 6, 7, 8, 9, 10, 11, 12, 13, 14, 15, 16, 17, 18, 19, 20, 21, 22])
  .ret)),
  [(4, none)], [(false, .deep)]⟩

def a_laws_FnExactAreDisjoint : AFunc := ⟨[false], 27,
  (.seq (.region [⟨some 2, none, .take false (.c (.bool false))⟩] [2])
  (.seq (.region [⟨some 3, none, .take false (.c (I 1048576))⟩] [])
  (.seq (.region [⟨some 7, none, .mv false (.t 0 [])⟩,
    ⟨some 8, none, .mv false (.t 3 [])⟩,
    ⟨some 9, none, .call 18 [(.t 7 []), (.t 8 [])]⟩,
    ⟨some 3, none, .take false (.t 9 [])⟩] [7, 8, 9])
  (.seq (.seq (.region [⟨some 10, none, .mv false (.t 3 [])⟩,
     ⟨some 11, none, .bin .lss (.t 10 []) (.c (I 0))⟩] [3, 10])
   (.cond (.t 11 [])
    (.seq (.region [⟨some 2, none, .take false (.c (.bool true))⟩] [0, 11])
    .ret)
    .skip))
  (.seq (.region [⟨some 12, none, .mv false (.t 0 [])⟩,
    ⟨some 13, none, .call 20 [(.t 12 [])]⟩,
    ⟨some 14, none, .call 19 [(.t 13 [])]⟩,
    ⟨some 4, none, .take false (.t 14 [])⟩] [11, 12, 13, 14])
  (.seq (.region [⟨some 15, none, .mv false (.t 0 [])⟩,
    ⟨some 16, none, .call 20 [(.t 15 [])]⟩,
    ⟨some 5, none, .take false (.t 16 [])⟩] [15, 16])
  (.seq (.region [⟨some 17, none, .mv false (.t 5 [])⟩,
    ⟨some 18, none, .call 21 [(.t 17 [5])]⟩,
    ⟨some 6, none, .take false (.t 18 [])⟩] [17, 18])
  (.seq (.seq (.region [⟨some 19, none, .mv false (.t 6 [])⟩,
     ⟨some 20, none, .mv false (.t 4 [])⟩,
     ⟨some 21, none, .eqB true (.t 19 []) (.t 20 [])⟩] [4, 6, 19, 20])
   (.cond (.t 21 [])
    (.seq (.region [⟨some 2, none, .take false (.c (.bool false))⟩] [0, 5, 21])
    .ret)
    .skip))
  (.seq (.seq (.region [⟨some 22, none, .mv false (.t 5 [])⟩,
     ⟨some 23, none, .mv false (.t 0 [])⟩,
     ⟨some 24, none, .call 20 [(.t 23 [])]⟩,
     ⟨some 25, none, .call 22 [(.t 22 [5]), (.t 24 [])]⟩,
     ⟨some 26, none, .un .not (.t 25 [])⟩] [0, 5, 21, 22, 23, 24, 25])
   (.cond (.t 26 [])
    (.seq (.region [⟨some 2, none, .take false (.c (.bool false))⟩] [26])
    .ret)
    .skip))
  (.seq (.region [⟨some 2, none, .take false (.c (.bool true))⟩] [26])
  .ret)))))))))),
  [(2, none)], [(false, .deep)]⟩

def a_laws_szStepSS : AFunc := ⟨[false, false], 27,
  (.seq (.region [⟨some 4, none, .take false (.c (I 0))⟩] [4])
  (.seq (.region [⟨some 6, none, .mv false (.t 1 [])⟩,
    ⟨some 7, none, .mv false (.t 0 [])⟩,
    ⟨some 8, none, .len (.t 7 [])⟩,
    ⟨some 9, none, .bin .sub (.t 6 []) (.t 8 [])⟩,
    ⟨some 1, none, .take false (.t 9 [])⟩] [6, 7, 8, 9])
  (.seq (.seq (.region [⟨some 10, none, .mv false (.t 1 [])⟩,
     ⟨some 11, none, .bin .lss (.t 10 []) (.c (I 0))⟩] [10])
   (.cond (.t 11 [])
    (.seq (.region [⟨some 4, none, .take false (.c (I (-1)))⟩] [0, 1, 11])
    .ret)
    .skip))
  (.seq (.seq (.region [⟨some 5, none, .take false (.c (I 0))⟩] [11])
   (.block 0 (.pre [.kill [4, 12, 13, 14, 15, 16, 17, 18, 19, 20, 21, 22, 23, 24, 25]] (.loop (.seq (.seq (.region [⟨some 12, none, .mv false (.t 5 [])⟩,
        ⟨some 13, none, .mv false (.t 0 [])⟩,
        ⟨some 14, none, .len (.t 13 [])⟩,
        ⟨some 15, none, .bin .lss (.t 12 []) (.t 14 [])⟩] [12, 13, 14])
      (.cond (.t 15 [])
       .skip
       (.exit 0)))
     (.seq (.block 1 (.seq (.region [⟨some 18, none, .mv false (.t 0 [])⟩,
         ⟨some 19, none, .mv false (.t 5 [])⟩,
         ⟨some 20, none, .iaddr 1 (.t 18 []) (.t 19 [])⟩,
         ⟨some 21, none, .load none (.t 20 [])⟩,
         ⟨some 22, none, .mv false (.t 1 [])⟩,
         ⟨some 23, none, .call 11 [(.t 21 []), (.t 22 [])]⟩,
         ⟨some 1, none, .take false (.t 23 [])⟩] [15, 18, 19, 20, 21, 22, 23])
       (.seq (.region [⟨some 24, none, .mv false (.t 1 [])⟩,
         ⟨some 25, none, .bin .lss (.t 24 []) (.c (I 0))⟩] [24])
       (.cond (.t 25 [])
        (.seq (.region [⟨some 4, none, .take false (.c (I (-1)))⟩] [0, 1, 5, 25])
        .ret)
        .skip))))
     (.region [⟨some 16, none, .mv false (.t 5 [])⟩,
      ⟨some 17, none, .bin .add (.t 16 []) (.c (I 1))⟩,
      ⟨some 5, none, .take false (.t 17 [])⟩] [16, 17, 25])))))))
  (.seq (.region [⟨some 26, none, .mv false (.t 1 [])⟩,
    ⟨some 4, none, .take false (.t 26 [])⟩] [0, 1, 5, 15, 26])
  .ret))))),
  [(4, none)], [(false, .deep)]⟩

def a_laws_toStepSS : AFunc := ⟨[false], 23,
  (.seq (.region [⟨some 2, none, .take false (.c (Z 1))⟩] [2])
  (.seq (.region [⟨some 5, none, .mv false (.t 0 [])⟩,
    ⟨some 6, none, .len (.t 5 [])⟩,
    ⟨some 7, none, .make .deep 1 [(Z 3)] (.t 6 [])⟩,
    ⟨some 3, none, .take false (.t 7 [])⟩] [5, 6, 7])
  (.seq (.seq (.region [⟨some 4, none, .take false (.c (I 0))⟩] [])
   (.block 0 (.pre [.kill [8, 9, 10, 11, 12, 13, 14, 15, 16, 17, 18, 19, 20, 21]] (.loop (.seq (.seq (.region [⟨some 8, none, .mv false (.t 4 [])⟩,
        ⟨some 9, none, .mv false (.t 0 [])⟩,
        ⟨some 10, none, .len (.t 9 [])⟩,
        ⟨some 11, none, .bin .lss (.t 8 []) (.t 10 [])⟩] [8, 9, 10])
      (.cond (.t 11 [])
       .skip
       (.exit 0)))
     (.seq (.block 1 (.region [⟨some 14, none, .mv false (.t 3 [])⟩,
        ⟨some 15, none, .mv false (.t 4 [])⟩,
        ⟨some 16, none, .mv false (.t 0 [])⟩,
        ⟨some 17, none, .mv false (.t 4 [])⟩,
        ⟨some 18, none, .iaddr 1 (.t 16 []) (.t 17 [])⟩,
        ⟨some 19, none, .load none (.t 18 [])⟩,
        ⟨some 20, none, .call 13 [(.t 19 [])]⟩,
        ⟨some 21, none, .iaddr 1 (.t 14 [3]) (.t 15 [])⟩,
        ⟨none, none, .store 1 (.t 21 [3]) (.t 20 [])⟩] [11, 14, 15, 16, 17, 18, 19, 20]))
     (.region [⟨some 12, none, .mv false (.t 4 [])⟩,
      ⟨some 13, none, .bin .add (.t 12 []) (.c (I 1))⟩,
      ⟨some 4, none, .take false (.t 13 [])⟩] [12, 13])))))))
  (.seq (.region [⟨some 22, none, .mv false (.t 3 [])⟩,
    ⟨some 2, none, .take false (.t 22 [3])⟩] [0, 3, 4, 11, 22])
  .ret)))),
  [(2, none)], [(false, .deep)]⟩

def a_spec_AreDisjoint : AFunc := ⟨[false], 31,
  (.seq (.region [⟨some 2, none, .take false (.c (.bool false))⟩] [2])
  (.seq (.seq (.region [⟨some 3, none, .take false (.c (I 0))⟩] [])
   (.block 0 (.pre [.kill [2, 4, 5, 6, 7, 8, 9, 10, 11, 12, 13, 14, 15, 16, 17, 18, 19, 20, 21, 22, 23, 24, 25, 26, 27, 28, 29, 30]] (.loop (.seq (.seq (.region [⟨some 5, none, .mv false (.t 3 [])⟩,
        ⟨some 6, none, .mv false (.t 0 [])⟩,
        ⟨some 7, none, .len (.t 6 [])⟩,
        ⟨some 8, none, .bin .lss (.t 5 []) (.t 7 [])⟩] [5, 6, 7])
      (.cond (.t 8 [])
       .skip
       (.exit 0)))
     (.seq (.block 1 (.seq (.region [⟨some 4, none, .take false (.c (I 0))⟩] [8])
       (.block 2 (.pre [.kill [2, 11, 12, 13, 14, 15, 16, 17, 18, 19, 20, 21, 22, 23, 24, 25, 26, 27, 28, 29, 30]] (.loop (.seq (.seq (.region [⟨some 11, none, .mv false (.t 4 [])⟩,
            ⟨some 12, none, .mv false (.t 0 [])⟩,
            ⟨some 13, none, .len (.t 12 [])⟩,
            ⟨some 14, none, .bin .lss (.t 11 []) (.t 13 [])⟩] [11, 12, 13])
          (.cond (.t 14 [])
           .skip
           (.exit 2)))
         (.seq (.block 3 (.seq (.region [⟨some 17, none, .mv false (.t 3 [])⟩,
             ⟨some 18, none, .mv false (.t 4 [])⟩,
             ⟨some 19, none, .bin .neq (.t 17 []) (.t 18 [])⟩,
             ⟨some 20, none, .mv false (.t 19 [])⟩,
             ⟨some 21, some (20, true), .mv false (.t 0 [])⟩,
             ⟨some 22, some (20, true), .mv false (.t 3 [])⟩,
             ⟨some 23, some (20, true), .iaddr 1 (.t 21 []) (.t 22 [])⟩,
             ⟨some 24, some (20, true), .load none (.t 23 [])⟩,
             ⟨some 25, some (20, true), .mv false (.t 0 [])⟩,
             ⟨some 26, some (20, true), .mv false (.t 4 [])⟩,
             ⟨some 27, some (20, true), .iaddr 1 (.t 25 []) (.t 26 [])⟩,
             ⟨some 28, some (20, true), .load none (.t 27 [])⟩,
             ⟨some 29, some (20, true), .call 12 [(.t 24 []), (.t 28 [])]⟩,
             ⟨some 30, none, .pick (.t 20 []) (.t 29 []) (.c (.bool false))⟩] [14, 17, 18, 19, 20, 21, 22, 23, 24, 25, 26, 27, 28, 29])
           (.cond (.t 30 [])
            (.seq (.region [⟨some 2, none, .take false (.c (.bool false))⟩] [0, 3, 4, 30])
            .ret)
            .skip)))
         (.region [⟨some 15, none, .mv false (.t 4 [])⟩,
          ⟨some 16, none, .bin .add (.t 15 []) (.c (I 1))⟩,
          ⟨some 4, none, .take false (.t 16 [])⟩] [15, 16, 30]))))))))
     (.region [⟨some 9, none, .mv false (.t 3 [])⟩,
      ⟨some 10, none, .bin .add (.t 9 []) (.c (I 1))⟩,
      ⟨some 3, none, .take false (.t 10 [])⟩] [4, 9, 10, 14])))))))
  (.seq (.region [⟨some 2, none, .take false (.c (.bool true))⟩] [0, 3, 8])
  .ret))),
  [(2, none)], [(false, .deep)]⟩

def a_impl_AreDisjoint : AFunc := ⟨[false], 31,
  (.seq (.region [⟨some 2, none, .take false (.c (.bool false))⟩] [2])
  (.seq (.seq (.region [⟨some 7, none, .mv false (.t 0 [])⟩,
     ⟨some 8, none, .len (.t 7 [])⟩,
     ⟨some 9, none, .take false (.c (I 0))⟩] [])
   (.block 0 (.pre [.kill [2, 3, 4, 5, 6, 10, 11, 12, 13, 14, 15, 16, 17, 18, 19, 20, 21, 22, 23, 24, 25, 26, 27, 28, 29, 30]] (.loop (.seq (.region [⟨some 10, none, .bin .lss (.t 9 []) (.t 8 [])⟩] [])
     (.seq (.cond (.t 10 [])
       .skip
       (.exit 0))
     (.seq (.block 1 (.seq (.region [⟨some 11, none, .mv false (.t 9 [])⟩,
         ⟨some 12, none, .iaddr 1 (.t 7 []) (.t 9 [])⟩,
         ⟨some 13, none, .load none (.t 12 [])⟩,
         ⟨some 3, none, .take false (.t 11 [])⟩,
         ⟨some 4, none, .take false (.t 13 [])⟩] [10, 11, 12, 13])
       (.seq (.region [⟨some 14, none, .mv false (.t 0 [])⟩,
         ⟨some 15, none, .len (.t 14 [])⟩,
         ⟨some 16, none, .take false (.c (I 0))⟩] [])
       (.block 2 (.pre [.kill [2, 5, 6, 17, 18, 19, 20, 21, 22, 23, 24, 25, 26, 27, 28, 29]] (.loop (.seq (.region [⟨some 17, none, .bin .lss (.t 16 []) (.t 15 [])⟩] [])
         (.seq (.cond (.t 17 [])
           .skip
           (.exit 2))
         (.seq (.block 3 (.seq (.region [⟨some 18, none, .mv false (.t 16 [])⟩,
             ⟨some 19, none, .iaddr 1 (.t 14 []) (.t 16 [])⟩,
             ⟨some 20, none, .load none (.t 19 [])⟩,
             ⟨some 5, none, .take false (.t 18 [])⟩,
             ⟨some 6, none, .take false (.t 20 [])⟩] [17, 18, 19, 20])
           (.seq (.region [⟨some 21, none, .mv false (.t 3 [])⟩,
             ⟨some 22, none, .mv false (.t 5 [])⟩,
             ⟨some 23, none, .bin .neq (.t 21 []) (.t 22 [])⟩,
             ⟨some 24, none, .mv false (.t 23 [])⟩,
             ⟨some 25, some (24, true), .mv false (.t 4 [])⟩,
             ⟨some 26, some (24, true), .mv false (.t 6 [])⟩,
             ⟨some 27, some (24, true), .call 14 [(.t 25 []), (.t 26 [])]⟩,
             ⟨some 28, none, .pick (.t 24 []) (.t 27 []) (.c (.bool false))⟩] [5, 6, 21, 22, 23, 24, 25, 26, 27])
           (.cond (.t 28 [])
            (.seq (.region [⟨some 2, none, .take false (.c (.bool false))⟩] [0, 3, 4, 7, 8, 9, 14, 15, 16, 28])
            .ret)
            .skip))))
         (.region [⟨some 29, none, .bin .add (.t 16 []) (.c (I 1))⟩,
          ⟨some 16, none, .mv false (.t 29 [])⟩] [28, 29]))))))))))
     (.region [⟨some 30, none, .bin .add (.t 9 []) (.c (I 1))⟩,
      ⟨some 9, none, .mv false (.t 30 [])⟩] [3, 4, 14, 15, 16, 17, 30]))))))))
  (.seq (.region [⟨some 2, none, .take false (.c (.bool true))⟩] [0, 7, 8, 9, 10])
  .ret))),
  [(2, none)], [(false, .deep)]⟩

def a_laws_eqStepSS : AFunc := ⟨[false, false], 27,
  (.seq (.region [⟨some 4, none, .take false (.c (.bool false))⟩] [4])
  (.seq (.seq (.region [⟨some 6, none, .mv false (.t 0 [])⟩,
     ⟨some 7, none, .len (.t 6 [])⟩,
     ⟨some 8, none, .mv false (.t 1 [])⟩,
     ⟨some 9, none, .len (.t 8 [])⟩,
     ⟨some 10, none, .bin .neq (.t 7 []) (.t 9 [])⟩] [6, 7, 8, 9])
   (.cond (.t 10 [])
    (.seq (.region [⟨some 4, none, .take false (.c (.bool false))⟩] [0, 1, 10])
    .ret)
    .skip))
  (.seq (.seq (.region [⟨some 5, none, .take false (.c (I 0))⟩] [10])
   (.block 0 (.pre [.kill [4, 11, 12, 13, 14, 15, 16, 17, 18, 19, 20, 21, 22, 23, 24, 25, 26]] (.loop (.seq (.seq (.region [⟨some 11, none, .mv false (.t 5 [])⟩,
        ⟨some 12, none, .mv false (.t 0 [])⟩,
        ⟨some 13, none, .len (.t 12 [])⟩,
        ⟨some 14, none, .bin .lss (.t 11 []) (.t 13 [])⟩] [11, 12, 13])
      (.cond (.t 14 [])
       .skip
       (.exit 0)))
     (.seq (.block 1 (.seq (.region [⟨some 17, none, .mv false (.t 0 [])⟩,
         ⟨some 18, none, .mv false (.t 5 [])⟩,
         ⟨some 19, none, .iaddr 1 (.t 17 []) (.t 18 [])⟩,
         ⟨some 20, none, .load none (.t 19 [])⟩,
         ⟨some 21, none, .mv false (.t 1 [])⟩,
         ⟨some 22, none, .mv false (.t 5 [])⟩,
         ⟨some 23, none, .iaddr 1 (.t 21 []) (.t 22 [])⟩,
         ⟨some 24, none, .load none (.t 23 [])⟩,
         ⟨some 25, none, .call 15 [(.t 20 []), (.t 24 [])]⟩,
         ⟨some 26, none, .un .not (.t 25 [])⟩] [14, 17, 18, 19, 20, 21, 22, 23, 24, 25])
       (.cond (.t 26 [])
        (.seq (.region [⟨some 4, none, .take false (.c (.bool false))⟩] [0, 1, 5, 26])
        .ret)
        .skip)))
     (.region [⟨some 15, none, .mv false (.t 5 [])⟩,
      ⟨some 16, none, .bin .add (.t 15 []) (.c (I 1))⟩,
      ⟨some 5, none, .take false (.t 16 [])⟩] [15, 16, 26])))))))
  (.seq (.region [⟨some 4, none, .take false (.c (.bool true))⟩] [0, 1, 5, 14])
  .ret)))),
  [(4, none)], [(false, .deep)]⟩

def a_laws_FnExactOverlap : AFunc := ⟨[false, false], 45,
  (.seq (.region [⟨some 4, none, .take false (.c (.bool false))⟩] [4])
  (.seq (.region [⟨some 5, none, .take false (.c (I 1048576))⟩] [])
  (.seq (.region [⟨some 10, none, .mv false (.t 0 [])⟩,
    ⟨some 11, none, .mv false (.t 5 [])⟩,
    ⟨some 12, none, .call 18 [(.t 10 []), (.t 11 [])]⟩,
    ⟨some 5, none, .take false (.t 12 [])⟩] [10, 11, 12])
  (.seq (.seq (.region [⟨some 13, none, .mv false (.t 5 [])⟩,
     ⟨some 14, none, .bin .lss (.t 13 []) (.c (I 0))⟩] [13])
   (.cond (.t 14 [])
    (.seq (.region [⟨some 4, none, .take false (.c (.bool true))⟩] [0, 1, 5, 14])
    .ret)
    .skip))
  (.seq (.region [⟨some 15, none, .mv false (.t 1 [])⟩,
    ⟨some 16, none, .mv false (.t 5 [])⟩,
    ⟨some 17, none, .call 18 [(.t 15 []), (.t 16 [])]⟩,
    ⟨some 5, none, .take false (.t 17 [])⟩] [14, 15, 16, 17])
  (.seq (.seq (.region [⟨some 18, none, .mv false (.t 5 [])⟩,
     ⟨some 19, none, .bin .lss (.t 18 []) (.c (I 0))⟩] [5, 18])
   (.cond (.t 19 [])
    (.seq (.region [⟨some 4, none, .take false (.c (.bool true))⟩] [0, 1, 19])
    .ret)
    .skip))
  (.seq (.region [⟨some 20, none, .mv false (.t 0 [])⟩,
    ⟨some 21, none, .call 20 [(.t 20 [])]⟩,
    ⟨some 22, none, .mv false (.t 1 [])⟩,
    ⟨some 23, none, .call 20 [(.t 22 [])]⟩,
    ⟨some 24, none, .call 23 [(.t 21 []), (.t 23 [])]⟩,
    ⟨some 6, none, .take false (.t 24 [])⟩] [19, 20, 21, 22, 23, 24])
  (.seq (.region [⟨some 25, none, .mv false (.t 0 [])⟩,
    ⟨some 26, none, .call 20 [(.t 25 [])]⟩,
    ⟨some 7, none, .take false (.t 26 [])⟩] [25, 26])
  (.seq (.region [⟨some 27, none, .mv false (.t 1 [])⟩,
    ⟨some 28, none, .call 20 [(.t 27 [])]⟩,
    ⟨some 8, none, .take false (.t 28 [])⟩] [27, 28])
  (.seq (.region [⟨some 29, none, .mv false (.t 7 [])⟩,
    ⟨some 30, none, .mv false (.t 8 [])⟩,
    ⟨some 31, none, .call 24 [(.t 29 [7]), (.t 30 [8])]⟩,
    ⟨some 9, none, .take false (.t 31 [])⟩] [29, 30, 31])
  (.seq (.seq (.region [⟨some 32, none, .mv false (.t 9 [])⟩,
     ⟨some 33, none, .mv false (.t 6 [])⟩,
     ⟨some 34, none, .eqB true (.t 32 []) (.t 33 [])⟩] [6, 9, 32, 33])
   (.cond (.t 34 [])
    (.seq (.region [⟨some 4, none, .take false (.c (.bool false))⟩] [0, 1, 7, 8, 34])
    .ret)
    .skip))
  (.seq (.seq (.region [⟨some 35, none, .mv false (.t 7 [])⟩,
     ⟨some 36, none, .mv false (.t 0 [])⟩,
     ⟨some 37, none, .call 20 [(.t 36 [])]⟩,
     ⟨some 38, none, .call 22 [(.t 35 [7]), (.t 37 [])]⟩,
     ⟨some 39, none, .un .not (.t 38 [])⟩] [0, 7, 34, 35, 36, 37, 38])
   (.cond (.t 39 [])
    (.seq (.region [⟨some 4, none, .take false (.c (.bool false))⟩] [1, 8, 39])
    .ret)
    .skip))
  (.seq (.seq (.region [⟨some 40, none, .mv false (.t 8 [])⟩,
     ⟨some 41, none, .mv false (.t 1 [])⟩,
     ⟨some 42, none, .call 20 [(.t 41 [])]⟩,
     ⟨some 43, none, .call 22 [(.t 40 [8]), (.t 42 [])]⟩,
     ⟨some 44, none, .un .not (.t 43 [])⟩] [1, 8, 39, 40, 41, 42, 43])
   (.cond (.t 44 [])
    (.seq (.region [⟨some 4, none, .take false (.c (.bool false))⟩] [44])
    .ret)
    .skip))
  (.seq (.region [⟨some 4, none, .take false (.c (.bool true))⟩] [44])
  .ret)))))))))))))),
  [(4, none)], [(false, .deep)]⟩

def a_spec_Overlap : AFunc := ⟨[false, false], 39,
  (.seq (.region [⟨some 4, none, .take false (.c (.bool false))⟩] [4])
  (.seq (.seq (.region [⟨some 5, none, .take false (.c (I 0))⟩] [])
   (.block 0 (.pre [.kill [4, 6, 7, 8, 9, 10, 11, 12, 13, 14, 15, 16, 17, 18, 19, 20, 21, 22, 23, 24, 25, 26, 27, 28, 29, 30, 31, 32, 33, 34, 35, 36, 37, 38]] (.loop (.seq (.seq (.region [⟨some 7, none, .mv false (.t 5 [])⟩,
        ⟨some 8, none, .mv false (.t 0 [])⟩,
        ⟨some 9, none, .len (.t 8 [])⟩,
        ⟨some 10, none, .bin .lss (.t 7 []) (.t 9 [])⟩] [7, 8, 9])
      (.cond (.t 10 [])
       .skip
       (.exit 0)))
     (.seq (.block 1 (.seq (.region [⟨some 6, none, .take false (.c (I 0))⟩] [10])
       (.block 2 (.pre [.kill [4, 13, 14, 15, 16, 17, 18, 19, 20, 21, 22, 23, 24, 25, 26, 27, 28, 29, 30, 31, 32, 33, 34, 35, 36, 37, 38]] (.loop (.seq (.seq (.region [⟨some 13, none, .mv false (.t 6 [])⟩,
            ⟨some 14, none, .mv false (.t 1 [])⟩,
            ⟨some 15, none, .len (.t 14 [])⟩,
            ⟨some 16, none, .bin .lss (.t 13 []) (.t 15 [])⟩] [13, 14, 15])
          (.cond (.t 16 [])
           .skip
           (.exit 2)))
         (.seq (.block 3 (.seq (.region [⟨some 19, none, .mv false (.t 0 [])⟩,
             ⟨some 20, none, .mv false (.t 5 [])⟩,
             ⟨some 21, none, .iaddr 1 (.t 19 []) (.t 20 [])⟩,
             ⟨some 22, none, .load none (.t 21 [])⟩,
             ⟨some 23, none, .mv false (.t 1 [])⟩,
             ⟨some 24, none, .mv false (.t 6 [])⟩,
             ⟨some 25, none, .iaddr 1 (.t 23 []) (.t 24 [])⟩,
             ⟨some 26, none, .load none (.t 25 [])⟩,
             ⟨some 27, none, .call 12 [(.t 22 []), (.t 26 [])]⟩,
             ⟨some 28, none, .mv false (.t 27 [])⟩,
             ⟨some 29, some (28, false), .mv false (.t 1 [])⟩,
             ⟨some 30, some (28, false), .mv false (.t 6 [])⟩,
             ⟨some 31, some (28, false), .iaddr 1 (.t 29 []) (.t 30 [])⟩,
             ⟨some 32, some (28, false), .load none (.t 31 [])⟩,
             ⟨some 33, some (28, false), .mv false (.t 0 [])⟩,
             ⟨some 34, some (28, false), .mv false (.t 5 [])⟩,
             ⟨some 35, some (28, false), .iaddr 1 (.t 33 []) (.t 34 [])⟩,
             ⟨some 36, some (28, false), .load none (.t 35 [])⟩,
             ⟨some 37, some (28, false), .call 12 [(.t 32 []), (.t 36 [])]⟩,
             ⟨some 38, none, .pick (.t 28 []) (.c (.bool true)) (.t 37 [])⟩] [16, 19, 20, 21, 22, 23, 24, 25, 26, 27, 28, 29, 30, 31, 32, 33, 34, 35, 36, 37])
           (.cond (.t 38 [])
            (.seq (.region [⟨some 4, none, .take false (.c (.bool true))⟩] [0, 1, 5, 6, 38])
            .ret)
            .skip)))
         (.region [⟨some 17, none, .mv false (.t 6 [])⟩,
          ⟨some 18, none, .bin .add (.t 17 []) (.c (I 1))⟩,
          ⟨some 6, none, .take false (.t 18 [])⟩] [17, 18, 38]))))))))
     (.region [⟨some 11, none, .mv false (.t 5 [])⟩,
      ⟨some 12, none, .bin .add (.t 11 []) (.c (I 1))⟩,
      ⟨some 5, none, .take false (.t 12 [])⟩] [6, 11, 12, 16])))))))
  (.seq (.region [⟨some 4, none, .take false (.c (.bool false))⟩] [0, 1, 5, 10])
  .ret))),
  [(4, none)], [(false, .deep)]⟩

def a_impl_Overlap : AFunc := ⟨[false, false], 31,
  (.seq (.region [⟨some 4, none, .take false (.c (.bool false))⟩] [4])
  (.seq (.seq (.region [⟨some 9, none, .mv false (.t 0 [])⟩,
     ⟨some 10, none, .len (.t 9 [])⟩,
     ⟨some 11, none, .take false (.c (I 0))⟩] [0])
   (.block 0 (.pre [.kill [4, 6, 8, 12, 13, 14, 15, 16, 17, 18, 19, 20, 21, 22, 23, 24, 25, 26, 27, 28, 29, 30]] (.loop (.seq (.region [⟨some 12, none, .bin .lss (.t 11 []) (.t 10 [])⟩] [])
     (.seq (.cond (.t 12 [])
       .skip
       (.exit 0))
     (.seq (.block 1 (.seq (.region [⟨some 13, none, .iaddr 1 (.t 9 []) (.t 11 [])⟩,
         ⟨some 14, none, .load none (.t 13 [])⟩,
         ⟨some 6, none, .take false (.t 14 [])⟩] [12, 13, 14])
       (.seq (.region [⟨some 15, none, .mv false (.t 1 [])⟩,
         ⟨some 16, none, .len (.t 15 [])⟩,
         ⟨some 17, none, .take false (.c (I 0))⟩] [])
       (.block 2 (.pre [.kill [4, 8, 18, 19, 20, 21, 22, 23, 24, 25, 26, 27, 28, 29]] (.loop (.seq (.region [⟨some 18, none, .bin .lss (.t 17 []) (.t 16 [])⟩] [])
         (.seq (.cond (.t 18 [])
           .skip
           (.exit 2))
         (.seq (.block 3 (.seq (.region [⟨some 19, none, .iaddr 1 (.t 15 []) (.t 17 [])⟩,
             ⟨some 20, none, .load none (.t 19 [])⟩,
             ⟨some 8, none, .take false (.t 20 [])⟩] [18, 19, 20])
           (.seq (.region [⟨some 21, none, .mv false (.t 6 [])⟩,
             ⟨some 22, none, .mv false (.t 8 [])⟩,
             ⟨some 23, none, .call 14 [(.t 21 []), (.t 22 [])]⟩,
             ⟨some 24, none, .mv false (.t 23 [])⟩,
             ⟨some 25, some (24, false), .mv false (.t 8 [])⟩,
             ⟨some 26, some (24, false), .mv false (.t 6 [])⟩,
             ⟨some 27, some (24, false), .call 14 [(.t 25 []), (.t 26 [])]⟩,
             ⟨some 28, none, .pick (.t 24 []) (.c (.bool true)) (.t 27 [])⟩] [8, 21, 22, 23, 24, 25, 26, 27])
           (.cond (.t 28 [])
            (.seq (.region [⟨some 4, none, .take false (.c (.bool true))⟩] [1, 6, 9, 10, 11, 15, 16, 17, 28])
            .ret)
            .skip))))
         (.region [⟨some 29, none, .bin .add (.t 17 []) (.c (I 1))⟩,
          ⟨some 17, none, .mv false (.t 29 [])⟩] [28, 29]))))))))))
     (.region [⟨some 30, none, .bin .add (.t 11 []) (.c (I 1))⟩,
      ⟨some 11, none, .mv false (.t 30 [])⟩] [6, 15, 16, 17, 18, 30]))))))))
  (.seq (.region [⟨some 4, none, .take false (.c (.bool false))⟩] [1, 9, 10, 11, 12])
  .ret))),
  [(4, none)], [(false, .deep)]⟩

def tab : Nat → Option AFunc
  | 0 => some a_laws_FnExactIsPrefix
  | 11 => some a_laws_szStepS
  | 13 => some a_laws_toStepS
  | 12 => some a_spec_IsPrefix
  | 14 => some a_impl_IsPrefix
  | 15 => some a_laws_eqStepS
  | 59 => some a_laws_szStep
  | 60 => some a_laws_toStep
  | 61 => some a_laws_eqStep
  | 1 => some a_laws_FnExactIsPath
  | 16 => some a_spec_IsPath
  | 17 => some a_impl_IsPath
  | 62 => some a_spec_IsName
  | 63 => some a_spec_l1In
  | 64 => some a_impl_IsName
  | 95 => some a_impl_nameByte
  | 2 => some a_laws_FnExactAreDisjoint
  | 18 => some a_laws_szStepSS
  | 20 => some a_laws_toStepSS
  | 19 => some a_spec_AreDisjoint
  | 21 => some a_impl_AreDisjoint
  | 22 => some a_laws_eqStepSS
  | 3 => some a_laws_FnExactOverlap
  | 23 => some a_spec_Overlap
  | 24 => some a_impl_Overlap
  | _ => none
def num : Nat → FuncId
  | 0 => 3
  | 11 => 9
  | 13 => 11
  | 12 => 10
  | 14 => 12
  | 15 => 13
  | 59 => 37
  | 60 => 38
  | 61 => 39
  | 1 => 4
  | 16 => 14
  | 17 => 15
  | 62 => 40
  | 63 => 41
  | 64 => 42
  | 95 => 47
  | 2 => 5
  | 18 => 16
  | 20 => 18
  | 19 => 17
  | 21 => 19
  | 22 => 20
  | 3 => 6
  | 23 => 21
  | 24 => 22
  | _ => 0
theorem k0 : chkFn Try.prog num 0 a_laws_FnExactIsPrefix = true := by kernel_rfl
theorem k11 : chkFn Try.prog num 11 a_laws_szStepS = true := by kernel_rfl
theorem k13 : chkFn Try.prog num 13 a_laws_toStepS = true := by kernel_rfl
theorem k12 : chkFn Try.prog num 12 a_spec_IsPrefix = true := by kernel_rfl
theorem k14 : chkFn Try.prog num 14 a_impl_IsPrefix = true := by kernel_rfl
theorem k15 : chkFn Try.prog num 15 a_laws_eqStepS = true := by kernel_rfl
theorem k59 : chkFn Try.prog num 59 a_laws_szStep = true := by kernel_rfl
theorem k60 : chkFn Try.prog num 60 a_laws_toStep = true := by kernel_rfl
theorem k61 : chkFn Try.prog num 61 a_laws_eqStep = true := by kernel_rfl
theorem k1 : chkFn Try.prog num 1 a_laws_FnExactIsPath = true := by kernel_rfl
theorem k16 : chkFn Try.prog num 16 a_spec_IsPath = true := by kernel_rfl
theorem k17 : chkFn Try.prog num 17 a_impl_IsPath = true := by kernel_rfl
theorem k62 : chkFn Try.prog num 62 a_spec_IsName = true := by kernel_rfl
theorem k63 : chkFn Try.prog num 63 a_spec_l1In = true := by kernel_rfl
theorem k64 : chkFn Try.prog num 64 a_impl_IsName = true := by kernel_rfl
theorem k95 : chkFn Try.prog num 95 a_impl_nameByte = true := by kernel_rfl
theorem k2 : chkFn Try.prog num 2 a_laws_FnExactAreDisjoint = true := by kernel_rfl
theorem k18 : chkFn Try.prog num 18 a_laws_szStepSS = true := by kernel_rfl
theorem k20 : chkFn Try.prog num 20 a_laws_toStepSS = true := by kernel_rfl
theorem k19 : chkFn Try.prog num 19 a_spec_AreDisjoint = true := by kernel_rfl
theorem k21 : chkFn Try.prog num 21 a_impl_AreDisjoint = true := by kernel_rfl
theorem k22 : chkFn Try.prog num 22 a_laws_eqStepSS = true := by kernel_rfl
theorem k3 : chkFn Try.prog num 3 a_laws_FnExactOverlap = true := by kernel_rfl
theorem k23 : chkFn Try.prog num 23 a_spec_Overlap = true := by kernel_rfl
theorem k24 : chkFn Try.prog num 24 a_impl_Overlap = true := by kernel_rfl
theorem tabHF : ∀ k fd, tab k = some fd → ∃ fn c, FnOk Try.prog num k fd fn c := by
  intro k fd h
  unfold tab at h
  split at h
  · injection h with h; subst h; exact chkFn_ _ _ k0
  · injection h with h; subst h; exact chkFn_ _ _ k11
  · injection h with h; subst h; exact chkFn_ _ _ k13
  · injection h with h; subst h; exact chkFn_ _ _ k12
  · injection h with h; subst h; exact chkFn_ _ _ k14
  · injection h with h; subst h; exact chkFn_ _ _ k15
  · injection h with h; subst h; exact chkFn_ _ _ k59
  · injection h with h; subst h; exact chkFn_ _ _ k60
  · injection h with h; subst h; exact chkFn_ _ _ k61
  · injection h with h; subst h; exact chkFn_ _ _ k1
  · injection h with h; subst h; exact chkFn_ _ _ k16
  · injection h with h; subst h; exact chkFn_ _ _ k17
  · injection h with h; subst h; exact chkFn_ _ _ k62
  · injection h with h; subst h; exact chkFn_ _ _ k63
  · injection h with h; subst h; exact chkFn_ _ _ k64
  · injection h with h; subst h; exact chkFn_ _ _ k95
  · injection h with h; subst h; exact chkFn_ _ _ k2
  · injection h with h; subst h; exact chkFn_ _ _ k18
  · injection h with h; subst h; exact chkFn_ _ _ k20
  · injection h with h; subst h; exact chkFn_ _ _ k19
  · injection h with h; subst h; exact chkFn_ _ _ k21
  · injection h with h; subst h; exact chkFn_ _ _ k22
  · injection h with h; subst h; exact chkFn_ _ _ k3
  · injection h with h; subst h; exact chkFn_ _ _ k23
  · injection h with h; subst h; exact chkFn_ _ _ k24
  · cases h
end Go.Proofs.Ytdgmelniiclbnaa
