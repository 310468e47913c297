/- The functions of the claim, as abstract code; each is checked against the program. -/
import Derived.Test.YtdgmelniiclbnaaSem5
import Derived.Test.YtdgmelniiclbnaaChecked
set_option maxRecDepth 100000
namespace Go.Proofs.Ytdgmelniiclbnaa
open Go

def a_laws_FnExactIsPrefix : AFunc := ⟨[false, false], 45,
  (.seq (.region [⟨some 4, none, .take false (.c (.bool false))⟩] [4])
  (.seq (.region [⟨some 5, none, .take false (.c (I 1048576))⟩] [])
  (.seq (.region [⟨some 10, none, .mv false (.t 0 [])⟩,
    ⟨some 11, none, .mv false (.t 5 [])⟩,
    ⟨some 12, none, .call 11 [(.t 10 []), (.t 11 [])]⟩,
    ⟨some 5, none, .take false (.t 12 [])⟩] [10, 11, 12])
  (.seq (.seq (.region [⟨some 13, none, .mv false (.t 5 [])⟩,
     ⟨some 14, none, .bin .lss (.t 13 []) (.c (I 0))⟩] [13])
   (.cond (.t 14 [])
    (.seq (.region [⟨some 4, none, .take false (.c (.bool true))⟩] [0, 1, 5, 14])
    .ret)
    .skip))
  (.seq (.region [⟨some 15, none, .mv false (.t 1 [])⟩,
    ⟨some 16, none, .mv false (.t 5 [])⟩,
    ⟨some 17, none, .call 11 [(.t 15 []), (.t 16 [])]⟩,
    ⟨some 5, none, .take false (.t 17 [])⟩] [14, 15, 16, 17])
  (.seq (.seq (.region [⟨some 18, none, .mv false (.t 5 [])⟩,
     ⟨some 19, none, .bin .lss (.t 18 []) (.c (I 0))⟩] [5, 18])
   (.cond (.t 19 [])
    (.seq (.region [⟨some 4, none, .take false (.c (.bool true))⟩] [0, 1, 19])
    .ret)
    .skip))
  (.seq (.region [⟨some 20, none, .mv false (.t 0 [])⟩,
    ⟨some 21, none, .call 13 [(.t 20 [])]⟩,
    ⟨some 22, none, .mv false (.t 1 [])⟩,
    ⟨some 23, none, .call 13 [(.t 22 [])]⟩,
    ⟨some 24, none, .call 12 [(.t 21 []), (.t 23 [])]⟩,
    ⟨some 6, none, .take false (.t 24 [])⟩] [19, 20, 21, 22, 23, 24])
  (.seq (.region [⟨some 25, none, .mv false (.t 0 [])⟩,
    ⟨some 26, none, .call 13 [(.t 25 [])]⟩,
    ⟨some 7, none, .take false (.t 26 [])⟩] [25, 26])
  (.seq (.region [⟨some 27, none, .mv false (.t 1 [])⟩,
    ⟨some 28, none, .call 13 [(.t 27 [])]⟩,
    ⟨some 8, none, .take false (.t 28 [])⟩] [27, 28])
  (.seq (.region [⟨some 29, none, .mv false (.t 7 [])⟩,
    ⟨some 30, none, .mv false (.t 8 [])⟩,
    ⟨some 31, none, .call 14 [(.t 29 [7]), (.t 30 [8])]⟩,
    ⟨some 9, none, .take false (.t 31 [])⟩] [29, 30, 31])
  (.seq (.seq (.region [⟨some 32, none, .mv false (.t 9 [])⟩,
     ⟨some 33, none, .mv false (.t 6 [])⟩,
     ⟨some 34, none, .eqB true (.t 32 []) (.t 33 [])⟩] [6, 9, 32, 33])
   (.cond (.t 34 [])
    (.seq (.region [⟨some 4, none, .take false (.c (.bool false))⟩] [0, 1, 7, 8, 34])
    .ret)
    .skip))
  (.seq (.seq (.region [⟨some 35, none, .mv false (.t 7 [])⟩,
     ⟨some 36, none, .mv false (.t 0 [])⟩,
     ⟨some 37, none, .call 13 [(.t 36 [])]⟩,
     ⟨some 38, none, .call 15 [(.t 35 [7]), (.t 37 [])]⟩,
     ⟨some 39, none, .un .not (.t 38 [])⟩] [0, 7, 34, 35, 36, 37, 38])
   (.cond (.t 39 [])
    (.seq (.region [⟨some 4, none, .take false (.c (.bool false))⟩] [1, 8, 39])
    .ret)
    .skip))
  (.seq (.seq (.region [⟨some 40, none, .mv false (.t 8 [])⟩,
     ⟨some 41, none, .mv false (.t 1 [])⟩,
     ⟨some 42, none, .call 13 [(.t 41 [])]⟩,
     ⟨some 43, none, .call 15 [(.t 40 [8]), (.t 42 [])]⟩,
     ⟨some 44, none, .un .not (.t 43 [])⟩] [1, 8, 39, 40, 41, 42, 43])
   (.cond (.t 44 [])
    (.seq (.region [⟨some 4, none, .take false (.c (.bool false))⟩] [44])
    .ret)
    .skip))
  (.seq (.region [⟨some 4, none, .take false (.c (.bool true))⟩] [44])
  .ret)))))))))))))),
  [(4, none)], [(false, .deep)]⟩

def a_laws_szStepS : AFunc := ⟨[false, false], 27,
  (.seq (.region [⟨some 4, none, .take false (.c (I 0))⟩] [4])
  (.seq (.region [⟨some 6, none, .mv false (.t 1 [])⟩,
    ⟨some 7, none, .mv false (.t 0 [])⟩,
    ⟨some 8, none, .len (.t 7 [])⟩,
    ⟨some 9, none, .bin .sub (.t 6 []) (.t 8 [])⟩,
    ⟨some 1, none, .take false (.t 9 [])⟩] [6, 7, 8, 9])
  (.seq (.seq (.region [⟨some 10, none, .mv false (.t 1 [])⟩,
     ⟨some 11, none, .bin .lss (.t 10 []) (.c (I 0))⟩] [10])
   (.cond (.t 11 [])
    (.seq (.region [⟨some 4, none, .take false (.c (I (-1)))⟩] [0, 1, 11])
    .ret)
    .skip))
  (.seq (.seq (.region [⟨some 5, none, .take false (.c (I 0))⟩] [11])
   (.block 0 (.pre [.kill [4, 12, 13, 14, 15, 16, 17, 18, 19, 20, 21, 22, 23, 24, 25]] (.loop (.seq (.seq (.region [⟨some 12, none, .mv false (.t 5 [])⟩,
        ⟨some 13, none, .mv false (.t 0 [])⟩,
        ⟨some 14, none, .len (.t 13 [])⟩,
        ⟨some 15, none, .bin .lss (.t 12 []) (.t 14 [])⟩] [12, 13, 14])
      (.cond (.t 15 [])
       .skip
       (.exit 0)))
     (.seq (.block 1 (.seq (.region [⟨some 18, none, .mv false (.t 0 [])⟩,
         ⟨some 19, none, .mv false (.t 5 [])⟩,
         ⟨some 20, none, .iaddr 3 (.t 18 []) (.t 19 [])⟩,
         ⟨some 21, none, .load (some 3) (.t 20 [])⟩,
         ⟨some 22, none, .mv false (.t 1 [])⟩,
         ⟨some 23, none, .call 59 [(.t 21 []), (.t 22 [])]⟩,
         ⟨some 1, none, .take false (.t 23 [])⟩] [15, 18, 19, 20, 21, 22, 23])
       (.seq (.region [⟨some 24, none, .mv false (.t 1 [])⟩,
         ⟨some 25, none, .bin .lss (.t 24 []) (.c (I 0))⟩] [24])
       (.cond (.t 25 [])
        (.seq (.region [⟨some 4, none, .take false (.c (I (-1)))⟩] [0, 1, 5, 25])
        .ret)
        .skip))))
     (.region [⟨some 16, none, .mv false (.t 5 [])⟩,
      ⟨some 17, none, .bin .add (.t 16 []) (.c (I 1))⟩,
      ⟨some 5, none, .take false (.t 17 [])⟩] [16, 17, 25])))))))
  (.seq (.region [⟨some 26, none, .mv false (.t 1 [])⟩,
    ⟨some 4, none, .take false (.t 26 [])⟩] [0, 1, 5, 15, 26])
  .ret))))),
  [(4, none)], [(false, .deep)]⟩

def a_laws_toStepS : AFunc := ⟨[false], 23,
  (.seq (.region [⟨some 2, none, .take false (.c (Z 3))⟩] [2])
  (.seq (.region [⟨some 5, none, .mv false (.t 0 [])⟩,
    ⟨some 6, none, .len (.t 5 [])⟩,
    ⟨some 7, none, .make .deep 3 [I0, S0, I0] (.t 6 [])⟩,
    ⟨some 3, none, .take false (.t 7 [])⟩] [5, 6, 7])
  (.seq (.seq (.region [⟨some 4, none, .take false (.c (I 0))⟩] [])
   (.block 0 (.pre [.kill [8, 9, 10, 11, 12, 13, 14, 15, 16, 17, 18, 19, 20, 21]] (.loop (.seq (.seq (.region [⟨some 8, none, .mv false (.t 4 [])⟩,
        ⟨some 9, none, .mv false (.t 0 [])⟩,
        ⟨some 10, none, .len (.t 9 [])⟩,
        ⟨some 11, none, .bin .lss (.t 8 []) (.t 10 [])⟩] [8, 9, 10])
      (.cond (.t 11 [])
       .skip
       (.exit 0)))
     (.seq (.block 1 (.region [⟨some 14, none, .mv false (.t 3 [])⟩,
        ⟨some 15, none, .mv false (.t 4 [])⟩,
        ⟨some 16, none, .mv false (.t 0 [])⟩,
        ⟨some 17, none, .mv false (.t 4 [])⟩,
        ⟨some 18, none, .iaddr 3 (.t 16 []) (.t 17 [])⟩,
        ⟨some 19, none, .load (some 3) (.t 18 [])⟩,
        ⟨some 20, none, .call 60 [(.t 19 [])]⟩,
        ⟨some 21, none, .iaddr 3 (.t 14 [3]) (.t 15 [])⟩,
        ⟨none, none, .store 3 (.t 21 [3]) (.t 20 [])⟩] [11, 14, 15, 16, 17, 18, 19, 20]))
     (.region [⟨some 12, none, .mv false (.t 4 [])⟩,
      ⟨some 13, none, .bin .add (.t 12 []) (.c (I 1))⟩,
      ⟨some 4, none, .take false (.t 13 [])⟩] [12, 13])))))))
  (.seq (.region [⟨some 22, none, .mv false (.t 3 [])⟩,
    ⟨some 2, none, .take false (.t 22 [3])⟩] [0, 3, 4, 11, 22])
  .ret)))),
  [(2, none)], [(false, .deep)]⟩

def a_spec_IsPrefix : AFunc := ⟨[false, false], 26,
  (.seq (.region [⟨some 4, none, .take false (.c (.bool false))⟩] [4])
  (.seq (.seq (.region [⟨some 6, none, .mv false (.t 0 [])⟩,
     ⟨some 7, none, .len (.t 6 [])⟩,
     ⟨some 8, none, .mv false (.t 1 [])⟩,
     ⟨some 9, none, .len (.t 8 [])⟩,
     ⟨some 10, none, .bin .gtr (.t 7 []) (.t 9 [])⟩] [6, 7, 8, 9])
   (.cond (.t 10 [])
    (.seq (.region [⟨some 4, none, .take false (.c (.bool false))⟩] [0, 1, 10])
    .ret)
    .skip))
  (.seq (.seq (.region [⟨some 5, none, .take false (.c (I 0))⟩] [10])
   (.block 0 (.pre [.kill [4, 11, 12, 13, 14, 15, 16, 17, 18, 19, 20, 21, 22, 23, 24, 25]] (.loop (.seq (.seq (.region [⟨some 11, none, .mv false (.t 5 [])⟩,
        ⟨some 12, none, .mv false (.t 0 [])⟩,
        ⟨some 13, none, .len (.t 12 [])⟩,
        ⟨some 14, none, .bin .lss (.t 11 []) (.t 13 [])⟩] [11, 12, 13])
      (.cond (.t 14 [])
       .skip
       (.exit 0)))
     (.seq (.block 1 (.seq (.region [⟨some 17, none, .mv false (.t 0 [])⟩,
         ⟨some 18, none, .mv false (.t 5 [])⟩,
         ⟨some 19, none, .iaddr 3 (.t 17 []) (.t 18 [])⟩,
         ⟨some 20, none, .load (some 3) (.t 19 [])⟩,
         ⟨some 21, none, .mv false (.t 1 [])⟩,
         ⟨some 22, none, .mv false (.t 5 [])⟩,
         ⟨some 23, none, .iaddr 3 (.t 21 []) (.t 22 [])⟩,
         ⟨some 24, none, .load (some 3) (.t 23 [])⟩,
         ⟨some 25, none, .eqAgg true [0, 2, 0] (.t 20 []) (.t 24 [])⟩] [14, 17, 18, 19, 20, 21, 22, 23, 24])
       (.cond (.t 25 [])
        (.seq (.region [⟨some 4, none, .take false (.c (.bool false))⟩] [0, 1, 5, 25])
        .ret)
        .skip)))
     (.region [⟨some 15, none, .mv false (.t 5 [])⟩,
      ⟨some 16, none, .bin .add (.t 15 []) (.c (I 1))⟩,
      ⟨some 5, none, .take false (.t 16 [])⟩] [15, 16, 25])))))))
  (.seq (.region [⟨some 4, none, .take false (.c (.bool true))⟩] [0, 1, 5, 14])
  .ret)))),
  [(4, none)], [(false, .deep)]⟩

def a_impl_IsPrefix : AFunc := ⟨[false, false], 26,
  (.seq (.region [⟨some 4, none, .take false (.c (.bool false))⟩] [4])
  (.seq (.seq (.region [⟨some 6, none, .mv false (.t 0 [])⟩,
     ⟨some 7, none, .len (.t 6 [])⟩,
     ⟨some 8, none, .mv false (.t 1 [])⟩,
     ⟨some 9, none, .len (.t 8 [])⟩,
     ⟨some 10, none, .bin .gtr (.t 7 []) (.t 9 [])⟩] [6, 7, 8, 9])
   (.cond (.t 10 [])
    (.seq (.region [⟨some 4, none, .take false (.c (.bool false))⟩] [0, 1, 10])
    .ret)
    .skip))
  (.seq (.seq (.region [⟨some 11, none, .mv false (.t 0 [])⟩,
     ⟨some 12, none, .len (.t 11 [])⟩,
     ⟨some 13, none, .take false (.c (I 0))⟩] [10, 11])
   (.block 0 (.pre [.kill [4, 5, 14, 15, 16, 17, 18, 19, 20, 21, 22, 23, 24, 25]] (.loop (.seq (.region [⟨some 14, none, .bin .lss (.t 13 []) (.t 12 [])⟩] [])
     (.seq (.cond (.t 14 [])
       .skip
       (.exit 0))
     (.seq (.block 1 (.seq (.region [⟨some 15, none, .mv false (.t 13 [])⟩,
         ⟨some 5, none, .take false (.t 15 [])⟩] [14, 15])
       (.seq (.region [⟨some 16, none, .mv false (.t 0 [])⟩,
         ⟨some 17, none, .mv false (.t 5 [])⟩,
         ⟨some 18, none, .iaddr 3 (.t 16 []) (.t 17 [])⟩,
         ⟨some 19, none, .load (some 3) (.t 18 [])⟩,
         ⟨some 20, none, .mv false (.t 1 [])⟩,
         ⟨some 21, none, .mv false (.t 5 [])⟩,
         ⟨some 22, none, .iaddr 3 (.t 20 []) (.t 21 [])⟩,
         ⟨some 23, none, .load (some 3) (.t 22 [])⟩,
         ⟨some 24, none, .eqAgg true [0, 2, 0] (.t 19 []) (.t 23 [])⟩] [5, 16, 17, 18, 19, 20, 21, 22, 23])
       (.cond (.t 24 [])
        (.seq (.region [⟨some 4, none, .take false (.c (.bool false))⟩] [0, 1, 12, 13, 24])
        .ret)
        .skip))))
     (.region [⟨some 25, none, .bin .add (.t 13 []) (.c (I 1))⟩,
      ⟨some 13, none, .mv false (.t 25 [])⟩] [24, 25]))))))))
  (.seq (.region [⟨some 4, none, .take false (.c (.bool true))⟩] [0, 1, 12, 13, 14])
  .ret)))),
  [(4, none)], [(false, .deep)]⟩

def a_laws_eqStepS : AFunc := ⟨[false, false], 27,
  (.seq (.region [⟨some 4, none, .take false (.c (.bool false))⟩] [4])
  (.seq (.seq (.region [⟨some 6, none, .mv false (.t 0 [])⟩,
     ⟨some 7, none, .len (.t 6 [])⟩,
     ⟨some 8, none, .mv false (.t 1 [])⟩,
     ⟨some 9, none, .len (.t 8 [])⟩,
     ⟨some 10, none, .bin .neq (.t 7 []) (.t 9 [])⟩] [6, 7, 8, 9])
   (.cond (.t 10 [])
    (.seq (.region [⟨some 4, none, .take false (.c (.bool false))⟩] [0, 1, 10])
    .ret)
    .skip))
  (.seq (.seq (.region [⟨some 5, none, .take false (.c (I 0))⟩] [10])
   (.block 0 (.pre [.kill [4, 11, 12, 13, 14, 15, 16, 17, 18, 19, 20, 21, 22, 23, 24, 25, 26]] (.loop (.seq (.seq (.region [⟨some 11, none, .mv false (.t 5 [])⟩,
        ⟨some 12, none, .mv false (.t 0 [])⟩,
        ⟨some 13, none, .len (.t 12 [])⟩,
        ⟨some 14, none, .bin .lss (.t 11 []) (.t 13 [])⟩] [11, 12, 13])
      (.cond (.t 14 [])
       .skip
       (.exit 0)))
     (.seq (.block 1 (.seq (.region [⟨some 17, none, .mv false (.t 0 [])⟩,
         ⟨some 18, none, .mv false (.t 5 [])⟩,
         ⟨some 19, none, .iaddr 3 (.t 17 []) (.t 18 [])⟩,
         ⟨some 20, none, .load (some 3) (.t 19 [])⟩,
         ⟨some 21, none, .mv false (.t 1 [])⟩,
         ⟨some 22, none, .mv false (.t 5 [])⟩,
         ⟨some 23, none, .iaddr 3 (.t 21 []) (.t 22 [])⟩,
         ⟨some 24, none, .load (some 3) (.t 23 [])⟩,
         ⟨some 25, none, .call 61 [(.t 20 []), (.t 24 [])]⟩,
         ⟨some 26, none, .un .not (.t 25 [])⟩] [14, 17, 18, 19, 20, 21, 22, 23, 24, 25])
       (.cond (.t 26 [])
        (.seq (.region [⟨some 4, none, .take false (.c (.bool false))⟩] [0, 1, 5, 26])
        .ret)
        .skip)))
     (.region [⟨some 15, none, .mv false (.t 5 [])⟩,
      ⟨some 16, none, .bin .add (.t 15 []) (.c (I 1))⟩,
      ⟨some 5, none, .take false (.t 16 [])⟩] [15, 16, 26])))))))
  (.seq (.region [⟨some 4, none, .take false (.c (.bool true))⟩] [0, 1, 5, 14])
  .ret)))),
  [(4, none)], [(false, .deep)]⟩

def a_laws_szStep : AFunc := ⟨[true, false], 13,
  (.seq (.region [⟨some 2, none, .box false (.t 0 [])⟩,
    ⟨some 4, none, .take false (.c (I 0))⟩] [0, 4])
  (.seq (.region [⟨some 5, none, .mv false (.t 1 [])⟩,
    ⟨some 6, none, .faddr 1 (.t 2 [])⟩,
    ⟨some 7, none, .load none (.t 6 [2])⟩,
    ⟨some 8, none, .lenS (.t 7 [])⟩,
    ⟨some 9, none, .bin .sub (.t 5 []) (.t 8 [])⟩,
    ⟨some 1, none, .take false (.t 9 [])⟩] [2, 5, 7, 8, 9])
  (.seq (.seq (.region [⟨some 10, none, .mv false (.t 1 [])⟩,
     ⟨some 11, none, .bin .lss (.t 10 []) (.c (I 0))⟩] [10])
   (.cond (.t 11 [])
    (.seq (.region [⟨some 4, none, .take false (.c (I (-1)))⟩] [1, 11])
    .ret)
    .skip))
  (.seq (.region [⟨some 12, none, .mv false (.t 1 [])⟩,
    ⟨some 4, none, .take false (.t 12 [])⟩] [1, 11, 12])
  .ret)))),
  [(4, none)], [(false, .deep)]⟩

def a_laws_toStep : AFunc := ⟨[true], 14,
  (.seq (.region [⟨some 1, none, .box false (.t 0 [])⟩,
    ⟨some 2, none, .alloc false [I0, S0, I0] [.deep, .deep, .deep]⟩] [0])
  (.seq (.region [⟨some 3, none, .alloc false [I0, S0, I0] [.deep, .deep, .deep]⟩] [])
  (.seq (.region [⟨some 4, none, .faddr 0 (.t 1 [])⟩,
    ⟨some 5, none, .load none (.t 4 [1])⟩,
    ⟨some 6, none, .faddr 0 (.t 3 [])⟩,
    ⟨none, none, .store 1 (.t 6 [3]) (.t 5 [])⟩] [4, 5, 6])
  (.seq (.region [⟨some 7, none, .faddr 1 (.t 1 [])⟩,
    ⟨some 8, none, .load none (.t 7 [1])⟩,
    ⟨some 9, none, .faddr 1 (.t 3 [])⟩,
    ⟨none, none, .store 1 (.t 9 [3]) (.t 8 [])⟩] [7, 8, 9])
  (.seq (.region [⟨some 10, none, .faddr 2 (.t 1 [])⟩,
    ⟨some 11, none, .load none (.t 10 [1])⟩,
    ⟨some 12, none, .faddr 2 (.t 3 [])⟩,
    ⟨none, none, .store 1 (.t 12 [3]) (.t 11 [])⟩] [1, 11, 12])
  (.seq (.region [⟨some 13, none, .load (some 3) (.t 3 [3])⟩,
    ⟨none, none, .store 3 (.t 2 [2]) (.t 13 [])⟩] [3, 13])
  .ret)))))),
  [(2, some 3)], [(true, .deep)]⟩

def a_laws_eqStep : AFunc := ⟨[true, true], 20,
  (.seq (.region [⟨some 2, none, .box false (.t 0 [])⟩,
    ⟨some 3, none, .box false (.t 1 [])⟩,
    ⟨some 4, none, .take false (.c (.bool false))⟩] [0, 1, 4])
  (.seq (.seq (.region [⟨some 5, none, .faddr 0 (.t 2 [])⟩,
     ⟨some 6, none, .load none (.t 5 [2])⟩,
     ⟨some 7, none, .faddr 0 (.t 3 [])⟩,
     ⟨some 8, none, .load none (.t 7 [3])⟩,
     ⟨some 9, none, .bin .neq (.t 6 []) (.t 8 [])⟩] [5, 6, 7, 8])
   (.cond (.t 9 [])
    (.seq (.region [⟨some 4, none, .take false (.c (.bool false))⟩] [2, 3, 9])
    .ret)
    .skip))
  (.seq (.seq (.region [⟨some 10, none, .faddr 1 (.t 2 [])⟩,
     ⟨some 11, none, .load none (.t 10 [2])⟩,
     ⟨some 12, none, .faddr 1 (.t 3 [])⟩,
     ⟨some 13, none, .load none (.t 12 [3])⟩,
     ⟨some 14, none, .bin .neq (.t 11 []) (.t 13 [])⟩] [9, 10, 11, 12, 13])
   (.cond (.t 14 [])
    (.seq (.region [⟨some 4, none, .take false (.c (.bool false))⟩] [2, 3, 14])
    .ret)
    .skip))
  (.seq (.seq (.region [⟨some 15, none, .faddr 2 (.t 2 [])⟩,
     ⟨some 16, none, .load none (.t 15 [2])⟩,
     ⟨some 17, none, .faddr 2 (.t 3 [])⟩,
     ⟨some 18, none, .load none (.t 17 [3])⟩,
     ⟨some 19, none, .bin .neq (.t 16 []) (.t 18 [])⟩] [2, 3, 14, 16, 18])
   (.cond (.t 19 [])
    (.seq (.region [⟨some 4, none, .take false (.c (.bool false))⟩] [19])
    .ret)
    .skip))
  (.seq (.region [⟨some 4, none, .take false (.c (.bool true))⟩] [19])
  .ret))))),
  [(4, none)], [(false, .deep)]⟩

def tab : Nat → Option AFunc
  | 0 => some a_laws_FnExactIsPrefix
  | 11 => some a_laws_szStepS
  | 13 => some a_laws_toStepS
  | 12 => some a_spec_IsPrefix
  | 14 => some a_impl_IsPrefix
  | 15 => some a_laws_eqStepS
  | 59 => some a_laws_szStep
  | 60 => some a_laws_toStep
  | 61 => some a_laws_eqStep
  | _ => none
def num : Nat → FuncId
  | 0 => 3
  | 11 => 9
  | 13 => 11
  | 12 => 10
  | 14 => 12
  | 15 => 13
  | 59 => 37
  | 60 => 38
  | 61 => 39
  | _ => 0
theorem k0 : chkFn Try.prog num 0 a_laws_FnExactIsPrefix = true := by kernel_rfl
theorem k11 : chkFn Try.prog num 11 a_laws_szStepS = true := by kernel_rfl
theorem k13 : chkFn Try.prog num 13 a_laws_toStepS = true := by kernel_rfl
theorem k12 : chkFn Try.prog num 12 a_spec_IsPrefix = true := by kernel_rfl
theorem k14 : chkFn Try.prog num 14 a_impl_IsPrefix = true := by kernel_rfl
theorem k15 : chkFn Try.prog num 15 a_laws_eqStepS = true := by kernel_rfl
theorem k59 : chkFn Try.prog num 59 a_laws_szStep = true := by kernel_rfl
theorem k60 : chkFn Try.prog num 60 a_laws_toStep = true := by kernel_rfl
theorem k61 : chkFn Try.prog num 61 a_laws_eqStep = true := by kernel_rfl
theorem tabHF : ∀ k fd, tab k = some fd → ∃ fn c, FnOk Try.prog num k fd fn c := by
  intro k fd h
  unfold tab at h
  split at h
  · injection h with h; subst h; exact chkFn_ _ _ k0
  · injection h with h; subst h; exact chkFn_ _ _ k11
  · injection h with h; subst h; exact chkFn_ _ _ k13
  · injection h with h; subst h; exact chkFn_ _ _ k12
  · injection h with h; subst h; exact chkFn_ _ _ k14
  · injection h with h; subst h; exact chkFn_ _ _ k15
  · injection h with h; subst h; exact chkFn_ _ _ k59
  · injection h with h; subst h; exact chkFn_ _ _ k60
  · injection h with h; subst h; exact chkFn_ _ _ k61
  · cases h
end Go.Proofs.Ytdgmelniiclbnaa
