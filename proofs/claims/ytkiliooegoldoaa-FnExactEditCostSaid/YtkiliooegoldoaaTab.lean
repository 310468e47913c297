/- The functions of the claim, as abstract code; each is checked against the program. -/
import Derived.Test.YtkiliooegoldoaaSem5
import Derived.Test.YtkiliooegoldoaaChecked
set_option maxRecDepth 100000
namespace Go.Proofs.Ytkiliooegoldoaa
open Go

def a_laws_FnExactEditCost : AFunc := ⟨[false], 27,
  (.seq (.region [⟨some 2, none, .take false (.c (.bool false))⟩] [2])
  (.seq (.region [⟨some 3, none, .take false (.c (I 1048576))⟩] [])
  (.seq (.region [⟨some 7, none, .mv false (.t 0 [])⟩,
    ⟨some 8, none, .mv false (.t 3 [])⟩,
    ⟨some 9, none, .call 41 [(.t 7 []), (.t 8 [])]⟩,
    ⟨some 3, none, .take false (.t 9 [])⟩] [7, 8, 9])
  (.seq (.seq (.region [⟨some 10, none, .mv false (.t 3 [])⟩,
     ⟨some 11, none, .bin .lss (.t 10 []) (.c (I 0))⟩] [3, 10])
   (.cond (.t 11 [])
    (.seq (.region [⟨some 2, none, .take false (.c (.bool true))⟩] [0, 11])
    .ret)
    .skip))
  (.seq (.region [⟨some 12, none, .mv false (.t 0 [])⟩,
    ⟨some 13, none, .call 43 [(.t 12 [])]⟩,
    ⟨some 14, none, .call 42 [(.t 13 [])]⟩,
    ⟨some 4, none, .take false (.t 14 [])⟩] [11, 12, 13, 14])
  (.seq (.region [⟨some 15, none, .mv false (.t 0 [])⟩,
    ⟨some 16, none, .call 43 [(.t 15 [])]⟩,
    ⟨some 5, none, .take false (.t 16 [])⟩] [15, 16])
  (.seq (.region [⟨some 17, none, .mv false (.t 5 [])⟩,
    ⟨some 18, none, .call 44 [(.t 17 [5])]⟩,
    ⟨some 6, none, .take false (.t 18 [])⟩] [17, 18])
  (.seq (.seq (.region [⟨some 19, none, .mv false (.t 6 [])⟩,
     ⟨some 20, none, .mv false (.t 4 [])⟩,
     ⟨some 21, none, .bin .neq (.t 19 []) (.t 20 [])⟩] [4, 6, 19, 20])
   (.cond (.t 21 [])
    (.seq (.region [⟨some 2, none, .take false (.c (.bool false))⟩] [0, 5, 21])
    .ret)
    .skip))
  (.seq (.seq (.region [⟨some 22, none, .mv false (.t 5 [])⟩,
     ⟨some 23, none, .mv false (.t 0 [])⟩,
     ⟨some 24, none, .call 43 [(.t 23 [])]⟩,
     ⟨some 25, none, .call 45 [(.t 22 [5]), (.t 24 [])]⟩,
     ⟨some 26, none, .un .not (.t 25 [])⟩] [0, 5, 21, 22, 23, 24, 25])
   (.cond (.t 26 [])
    (.seq (.region [⟨some 2, none, .take false (.c (.bool false))⟩] [26])
    .ret)
    .skip))
  (.seq (.region [⟨some 2, none, .take false (.c (.bool true))⟩] [26])
  .ret)))))))))),
  [(2, none)], [(false, .deep)]⟩

def a_laws_szEditS : AFunc := ⟨[false, false], 27,
  (.seq (.region [⟨some 4, none, .take false (.c (I 0))⟩] [4])
  (.seq (.region [⟨some 6, none, .mv false (.t 1 [])⟩,
    ⟨some 7, none, .mv false (.t 0 [])⟩,
    ⟨some 8, none, .len (.t 7 [])⟩,
    ⟨some 9, none, .bin .sub (.t 6 []) (.t 8 [])⟩,
    ⟨some 1, none, .take false (.t 9 [])⟩] [6, 7, 8, 9])
  (.seq (.seq (.region [⟨some 10, none, .mv false (.t 1 [])⟩,
     ⟨some 11, none, .bin .lss (.t 10 []) (.c (I 0))⟩] [10])
   (.cond (.t 11 [])
    (.seq (.region [⟨some 4, none, .take false (.c (I (-1)))⟩] [0, 1, 11])
    .ret)
    .skip))
  (.seq (.seq (.region [⟨some 5, none, .take false (.c (I 0))⟩] [11])
   (.block 0 (.pre [.kill [4, 12, 13, 14, 15, 16, 17, 18, 19, 20, 21, 22, 23, 24, 25]] (.loop (.seq (.seq (.region [⟨some 12, none, .mv false (.t 5 [])⟩,
        ⟨some 13, none, .mv false (.t 0 [])⟩,
        ⟨some 14, none, .len (.t 13 [])⟩,
        ⟨some 15, none, .bin .lss (.t 12 []) (.t 14 [])⟩] [12, 13, 14])
      (.cond (.t 15 [])
       .skip
       (.exit 0)))
     (.seq (.block 1 (.seq (.region [⟨some 18, none, .mv false (.t 0 [])⟩,
         ⟨some 19, none, .mv false (.t 5 [])⟩,
         ⟨some 20, none, .iaddr 8 (.t 18 []) (.t 19 [])⟩,
         ⟨some 21, none, .load (some 8) (.t 20 [])⟩,
         ⟨some 22, none, .mv false (.t 1 [])⟩,
         ⟨some 23, none, .call 71 [(.t 21 []), (.t 22 [])]⟩,
         ⟨some 1, none, .take false (.t 23 [])⟩] [15, 18, 19, 20, 21, 22, 23])
       (.seq (.region [⟨some 24, none, .mv false (.t 1 [])⟩,
         ⟨some 25, none, .bin .lss (.t 24 []) (.c (I 0))⟩] [24])
       (.cond (.t 25 [])
        (.seq (.region [⟨some 4, none, .take false (.c (I (-1)))⟩] [0, 1, 5, 25])
        .ret)
        .skip))))
     (.region [⟨some 16, none, .mv false (.t 5 [])⟩,
      ⟨some 17, none, .bin .add (.t 16 []) (.c (I 1))⟩,
      ⟨some 5, none, .take false (.t 17 [])⟩] [16, 17, 25])))))))
  (.seq (.region [⟨some 26, none, .mv false (.t 1 [])⟩,
    ⟨some 4, none, .take false (.t 26 [])⟩] [0, 1, 5, 15, 26])
  .ret))))),
  [(4, none)], [(false, .deep)]⟩

def a_laws_toEditS : AFunc := ⟨[false], 23,
  (.seq (.region [⟨some 2, none, .take false (.c (Z 8))⟩] [2])
  (.seq (.region [⟨some 5, none, .mv false (.t 0 [])⟩,
    ⟨some 6, none, .len (.t 5 [])⟩,
    ⟨some 7, none, .make .deep 8 [I0, (Z 3), I0, I0, S0, (Z 1), (Z 5), I0] (.t 6 [])⟩,
    ⟨some 3, none, .take false (.t 7 [])⟩] [5, 6, 7])
  (.seq (.seq (.region [⟨some 4, none, .take false (.c (I 0))⟩] [])
   (.block 0 (.pre [.kill [8, 9, 10, 11, 12, 13, 14, 15, 16, 17, 18, 19, 20, 21]] (.loop (.seq (.seq (.region [⟨some 8, none, .mv false (.t 4 [])⟩,
        ⟨some 9, none, .mv false (.t 0 [])⟩,
        ⟨some 10, none, .len (.t 9 [])⟩,
        ⟨some 11, none, .bin .lss (.t 8 []) (.t 10 [])⟩] [8, 9, 10])
      (.cond (.t 11 [])
       .skip
       (.exit 0)))
     (.seq (.block 1 (.region [⟨some 14, none, .mv false (.t 3 [])⟩,
        ⟨some 15, none, .mv false (.t 4 [])⟩,
        ⟨some 16, none, .mv false (.t 0 [])⟩,
        ⟨some 17, none, .mv false (.t 4 [])⟩,
        ⟨some 18, none, .iaddr 8 (.t 16 []) (.t 17 [])⟩,
        ⟨some 19, none, .load (some 8) (.t 18 [])⟩,
        ⟨some 20, none, .call 73 [(.t 19 [])]⟩,
        ⟨some 21, none, .iaddr 8 (.t 14 [3]) (.t 15 [])⟩,
        ⟨none, none, .store 8 (.t 21 [3]) (.t 20 [])⟩] [11, 14, 15, 16, 17, 18, 19, 20]))
     (.region [⟨some 12, none, .mv false (.t 4 [])⟩,
      ⟨some 13, none, .bin .add (.t 12 []) (.c (I 1))⟩,
      ⟨some 4, none, .take false (.t 13 [])⟩] [12, 13])))))))
  (.seq (.region [⟨some 22, none, .mv false (.t 3 [])⟩,
    ⟨some 2, none, .take false (.t 22 [3])⟩] [0, 3, 4, 11, 22])
  .ret)))),
  [(2, none)], [(false, .deep)]⟩

def a_spec_EditCost : AFunc := ⟨[false], 28,
  (.seq (.region [⟨some 2, none, .take false (.c (I 0))⟩] [2])
  (.seq (.region [⟨some 3, none, .take false (.c (I 0))⟩] [])
  (.seq (.seq (.region [⟨some 4, none, .take false (.c (I 0))⟩] [])
   (.block 0 (.pre [.kill [5, 6, 7, 8, 9, 10, 11, 12, 13, 14, 15, 16, 17, 18, 19, 20, 21, 22, 23, 24, 25, 26]] (.loop (.seq (.seq (.region [⟨some 5, none, .mv false (.t 4 [])⟩,
        ⟨some 6, none, .mv false (.t 0 [])⟩,
        ⟨some 7, none, .len (.t 6 [])⟩,
        ⟨some 8, none, .bin .lss (.t 5 []) (.t 7 [])⟩] [5, 6, 7])
      (.cond (.t 8 [])
       .skip
       (.exit 0)))
     (.seq (.block 1 (.seq (.region [⟨some 11, none, .mv false (.t 0 [])⟩,
         ⟨some 12, none, .mv false (.t 4 [])⟩,
         ⟨some 13, none, .iaddr 8 (.t 11 []) (.t 12 [])⟩,
         ⟨some 14, none, .faddr 0 (.t 13 [])⟩,
         ⟨some 15, none, .load none (.t 14 [])⟩,
         ⟨some 16, none, .bin .eql (.t 15 []) (.c (I 3))⟩] [8, 11, 12, 13, 14, 15])
       (.cond (.t 16 [])
        (.region [⟨some 17, none, .mv false (.t 3 [])⟩,
         ⟨some 18, none, .bin .add (.t 17 []) (.c (I 1))⟩,
         ⟨some 3, none, .take false (.t 18 [])⟩] [16, 17, 18])
        (.region [⟨some 19, none, .mv false (.t 3 [])⟩,
         ⟨some 20, none, .mv false (.t 0 [])⟩,
         ⟨some 21, none, .mv false (.t 4 [])⟩,
         ⟨some 22, none, .iaddr 8 (.t 20 []) (.t 21 [])⟩,
         ⟨some 23, none, .faddr 2 (.t 22 [])⟩,
         ⟨some 24, none, .load (some 5) (.t 23 [])⟩,
         ⟨some 25, none, .call 72 [(.t 24 [])]⟩,
         ⟨some 26, none, .bin .add (.t 19 []) (.t 25 [])⟩,
         ⟨some 3, none, .take false (.t 26 [])⟩] [16, 19, 20, 21, 22, 23, 24, 25, 26]))))
     (.region [⟨some 9, none, .mv false (.t 4 [])⟩,
      ⟨some 10, none, .bin .add (.t 9 []) (.c (I 1))⟩,
      ⟨some 4, none, .take false (.t 10 [])⟩] [9, 10])))))))
  (.seq (.region [⟨some 27, none, .mv false (.t 3 [])⟩,
    ⟨some 2, none, .take false (.t 27 [])⟩] [0, 3, 4, 8, 27])
  .ret)))),
  [(2, none)], [(false, .deep)]⟩

def a_impl_EditCost : AFunc := ⟨[false], 24,
  (.seq (.region [⟨some 2, none, .take false (.c (I 0))⟩] [2])
  (.seq (.region [⟨some 3, none, .take false (.c (I 0))⟩] [])
  (.seq (.seq (.region [⟨some 6, none, .mv false (.t 0 [])⟩,
     ⟨some 7, none, .len (.t 6 [])⟩,
     ⟨some 8, none, .take false (.c (I 0))⟩] [0])
   (.block 0 (.pre [.kill [5, 9, 10, 11, 12, 13, 14, 15, 16, 17, 18, 19, 20, 21, 22]] (.loop (.seq (.region [⟨some 9, none, .bin .lss (.t 8 []) (.t 7 [])⟩] [])
     (.seq (.cond (.t 9 [])
       .skip
       (.exit 0))
     (.seq (.block 1 (.seq (.region [⟨some 10, none, .iaddr 8 (.t 6 []) (.t 8 [])⟩,
         ⟨some 11, none, .load (some 8) (.t 10 [])⟩,
         ⟨some 5, none, .alloc false [I0, (Z 3), I0, I0, S0, (Z 1), (Z 5), I0] [.deep, .deep, .deep, .deep, .deep, .deep, .deep, .deep]⟩,
         ⟨none, none, .store 8 (.t 5 [5]) (.t 11 [])⟩] [9, 10, 11])
       (.seq (.region [⟨some 12, none, .faddr 0 (.t 5 [])⟩,
         ⟨some 13, none, .load none (.t 12 [5])⟩,
         ⟨some 14, none, .bin .eql (.t 13 []) (.c (I 3))⟩] [12, 13])
       (.cond (.t 14 [])
        (.region [⟨some 15, none, .mv false (.t 3 [])⟩,
         ⟨some 16, none, .bin .add (.t 15 []) (.c (I 1))⟩,
         ⟨some 3, none, .take false (.t 16 [])⟩] [5, 14, 15, 16])
        (.region [⟨some 17, none, .mv false (.t 3 [])⟩,
         ⟨some 18, none, .faddr 2 (.t 5 [])⟩,
         ⟨some 19, none, .load (some 5) (.t 18 [5])⟩,
         ⟨some 20, none, .call 74 [(.t 19 [])]⟩,
         ⟨some 21, none, .bin .add (.t 17 []) (.t 20 [])⟩,
         ⟨some 3, none, .take false (.t 21 [])⟩] [5, 14, 17, 19, 20, 21])))))
     (.region [⟨some 22, none, .bin .add (.t 8 []) (.c (I 1))⟩,
      ⟨some 8, none, .mv false (.t 22 [])⟩] [22]))))))))
  (.seq (.region [⟨some 23, none, .mv false (.t 3 [])⟩,
    ⟨some 2, none, .take false (.t 23 [])⟩] [3, 6, 7, 8, 9, 23])
  .ret)))),
  [(2, none)], [(false, .deep)]⟩

def a_laws_eqEditS : AFunc := ⟨[false, false], 27,
  (.seq (.region [⟨some 4, none, .take false (.c (.bool false))⟩] [4])
  (.seq (.seq (.region [⟨some 6, none, .mv false (.t 0 [])⟩,
     ⟨some 7, none, .len (.t 6 [])⟩,
     ⟨some 8, none, .mv false (.t 1 [])⟩,
     ⟨some 9, none, .len (.t 8 [])⟩,
     ⟨some 10, none, .bin .neq (.t 7 []) (.t 9 [])⟩] [6, 7, 8, 9])
   (.cond (.t 10 [])
    (.seq (.region [⟨some 4, none, .take false (.c (.bool false))⟩] [0, 1, 10])
    .ret)
    .skip))
  (.seq (.seq (.region [⟨some 5, none, .take false (.c (I 0))⟩] [10])
   (.block 0 (.pre [.kill [4, 11, 12, 13, 14, 15, 16, 17, 18, 19, 20, 21, 22, 23, 24, 25, 26]] (.loop (.seq (.seq (.region [⟨some 11, none, .mv false (.t 5 [])⟩,
        ⟨some 12, none, .mv false (.t 0 [])⟩,
        ⟨some 13, none, .len (.t 12 [])⟩,
        ⟨some 14, none, .bin .lss (.t 11 []) (.t 13 [])⟩] [11, 12, 13])
      (.cond (.t 14 [])
       .skip
       (.exit 0)))
     (.seq (.block 1 (.seq (.region [⟨some 17, none, .mv false (.t 0 [])⟩,
         ⟨some 18, none, .mv false (.t 5 [])⟩,
         ⟨some 19, none, .iaddr 8 (.t 17 []) (.t 18 [])⟩,
         ⟨some 20, none, .load (some 8) (.t 19 [])⟩,
         ⟨some 21, none, .mv false (.t 1 [])⟩,
         ⟨some 22, none, .mv false (.t 5 [])⟩,
         ⟨some 23, none, .iaddr 8 (.t 21 []) (.t 22 [])⟩,
         ⟨some 24, none, .load (some 8) (.t 23 [])⟩,
         ⟨some 25, none, .call 75 [(.t 20 []), (.t 24 [])]⟩,
         ⟨some 26, none, .un .not (.t 25 [])⟩] [14, 17, 18, 19, 20, 21, 22, 23, 24, 25])
       (.cond (.t 26 [])
        (.seq (.region [⟨some 4, none, .take false (.c (.bool false))⟩] [0, 1, 5, 26])
        .ret)
        .skip)))
     (.region [⟨some 15, none, .mv false (.t 5 [])⟩,
      ⟨some 16, none, .bin .add (.t 15 []) (.c (I 1))⟩,
      ⟨some 5, none, .take false (.t 16 [])⟩] [15, 16, 26])))))))
  (.seq (.region [⟨some 4, none, .take false (.c (.bool true))⟩] [0, 1, 5, 14])
  .ret)))),
  [(4, none)], [(false, .deep)]⟩

def a_laws_szEdit : AFunc := ⟨[true, false], 18,
  (.seq (.region [⟨some 2, none, .box false (.t 0 [])⟩,
    ⟨some 4, none, .take false (.c (I 0))⟩] [0, 4])
  (.seq (.region [⟨some 5, none, .faddr 1 (.t 2 [])⟩,
    ⟨some 6, none, .load none (.t 5 [2])⟩,
    ⟨some 7, none, .mv false (.t 1 [])⟩,
    ⟨some 8, none, .call 11 [(.t 6 []), (.t 7 [])]⟩,
    ⟨some 1, none, .take false (.t 8 [])⟩] [5, 6, 7, 8])
  (.seq (.seq (.region [⟨some 9, none, .mv false (.t 1 [])⟩,
     ⟨some 10, none, .bin .lss (.t 9 []) (.c (I 0))⟩] [9])
   (.cond (.t 10 [])
    (.seq (.region [⟨some 4, none, .take false (.c (I (-1)))⟩] [1, 2, 10])
    .ret)
    .skip))
  (.seq (.region [⟨some 11, none, .faddr 2 (.t 2 [])⟩,
    ⟨some 12, none, .load (some 5) (.t 11 [2])⟩,
    ⟨some 13, none, .mv false (.t 1 [])⟩,
    ⟨some 14, none, .call 76 [(.t 12 []), (.t 13 [])]⟩,
    ⟨some 1, none, .take false (.t 14 [])⟩] [2, 10, 12, 13, 14])
  (.seq (.seq (.region [⟨some 15, none, .mv false (.t 1 [])⟩,
     ⟨some 16, none, .bin .lss (.t 15 []) (.c (I 0))⟩] [15])
   (.cond (.t 16 [])
    (.seq (.region [⟨some 4, none, .take false (.c (I (-1)))⟩] [1, 16])
    .ret)
    .skip))
  (.seq (.region [⟨some 17, none, .mv false (.t 1 [])⟩,
    ⟨some 4, none, .take false (.t 17 [])⟩] [1, 16, 17])
  .ret)))))),
  [(4, none)], [(false, .deep)]⟩

def a_laws_toEdit : AFunc := ⟨[true], 19,
  (.seq (.region [⟨some 1, none, .box false (.t 0 [])⟩,
    ⟨some 2, none, .alloc false [I0, (Z 3), I0, I0, S0, (Z 1), (Z 5), I0] [.deep, .deep, .deep, .deep, .deep, .deep, .deep, .deep]⟩] [0])
  (.seq (.region [⟨some 3, none, .alloc false [I0, (Z 3), I0, I0, S0, (Z 1), (Z 5), I0] [.deep, .deep, .deep, .deep, .deep, .deep, .deep, .deep]⟩] [])
  (.seq (.region [⟨some 4, none, .faddr 0 (.t 1 [])⟩,
    ⟨some 5, none, .load none (.t 4 [1])⟩,
    ⟨some 6, none, .faddr 0 (.t 3 [])⟩,
    ⟨none, none, .store 1 (.t 6 [3]) (.t 5 [])⟩] [4, 5, 6])
  (.seq (.region [⟨some 7, none, .faddr 1 (.t 1 [])⟩,
    ⟨some 8, none, .load none (.t 7 [1])⟩,
    ⟨some 9, none, .call 13 [(.t 8 [])]⟩,
    ⟨some 10, none, .faddr 1 (.t 3 [])⟩,
    ⟨none, none, .store 1 (.t 10 [3]) (.t 9 [])⟩] [7, 8, 9, 10])
  (.seq (.region [⟨some 11, none, .faddr 2 (.t 1 [])⟩,
    ⟨some 12, none, .load (some 5) (.t 11 [1])⟩,
    ⟨some 13, none, .call 78 [(.t 12 [])]⟩,
    ⟨some 14, none, .faddr 2 (.t 3 [])⟩,
    ⟨none, none, .store 5 (.t 14 [3]) (.t 13 [])⟩] [11, 12, 13, 14])
  (.seq (.region [⟨some 15, none, .faddr 7 (.t 1 [])⟩,
    ⟨some 16, none, .load none (.t 15 [1])⟩,
    ⟨some 17, none, .faddr 7 (.t 3 [])⟩,
    ⟨none, none, .store 1 (.t 17 [3]) (.t 16 [])⟩] [1, 16, 17])
  (.seq (.region [⟨some 18, none, .load (some 8) (.t 3 [3])⟩,
    ⟨none, none, .store 8 (.t 2 [2]) (.t 18 [3])⟩] [3, 18])
  .ret))))))),
  [(2, some 8)], [(true, .deep)]⟩

def a_spec_SizeOfValue : AFunc := ⟨[true], 21,
  (.seq (.region [⟨some 1, none, .box false (.t 0 [])⟩,
    ⟨some 2, none, .take false (.c (I 0))⟩] [0, 2])
  (.seq (.region [⟨some 3, none, .take false (.c (I 1))⟩] [])
  (.seq (.seq (.region [⟨some 4, none, .take false (.c (I 0))⟩] [])
   (.block 0 (.pre [.kill [5, 6, 7, 8, 9, 10, 11, 12, 13, 14, 15, 16, 17, 18, 19]] (.loop (.seq (.seq (.region [⟨some 5, none, .mv false (.t 4 [])⟩,
        ⟨some 6, none, .faddr 4 (.t 1 [])⟩,
        ⟨some 7, none, .load none (.t 6 [1])⟩,
        ⟨some 8, none, .len (.t 7 [])⟩,
        ⟨some 9, none, .bin .lss (.t 5 []) (.t 8 [])⟩] [5, 6, 7, 8])
      (.cond (.t 9 [])
       .skip
       (.exit 0)))
     (.seq (.block 1 (.region [⟨some 12, none, .mv false (.t 3 [])⟩,
        ⟨some 13, none, .faddr 4 (.t 1 [])⟩,
        ⟨some 14, none, .load none (.t 13 [1])⟩,
        ⟨some 15, none, .mv false (.t 4 [])⟩,
        ⟨some 16, none, .iaddr 5 (.t 14 []) (.t 15 [])⟩,
        ⟨some 17, none, .load (some 5) (.t 16 [])⟩,
        ⟨some 18, none, .call 72 [(.t 17 [])]⟩,
        ⟨some 19, none, .bin .add (.t 12 []) (.t 18 [])⟩,
        ⟨some 3, none, .take false (.t 19 [])⟩] [9, 12, 13, 14, 15, 16, 17, 18, 19]))
     (.region [⟨some 10, none, .mv false (.t 4 [])⟩,
      ⟨some 11, none, .bin .add (.t 10 []) (.c (I 1))⟩,
      ⟨some 4, none, .take false (.t 11 [])⟩] [10, 11])))))))
  (.seq (.region [⟨some 20, none, .mv false (.t 3 [])⟩,
    ⟨some 2, none, .take false (.t 20 [])⟩] [1, 3, 4, 9, 20])
  .ret)))),
  [(2, none)], [(false, .deep)]⟩

def a_impl_SizeOfValue : AFunc := ⟨[true], 19,
  (.seq (.region [⟨some 1, none, .box false (.t 0 [])⟩,
    ⟨some 2, none, .take false (.c (I 0))⟩] [0, 2])
  (.seq (.region [⟨some 3, none, .take false (.c (I 1))⟩] [])
  (.seq (.seq (.region [⟨some 6, none, .faddr 4 (.t 1 [])⟩,
     ⟨some 7, none, .load none (.t 6 [1])⟩,
     ⟨some 8, none, .len (.t 7 [])⟩,
     ⟨some 9, none, .take false (.c (I 0))⟩] [1])
   (.block 0 (.pre [.kill [5, 10, 11, 12, 13, 14, 15, 16, 17]] (.loop (.seq (.region [⟨some 10, none, .bin .lss (.t 9 []) (.t 8 [])⟩] [])
     (.seq (.cond (.t 10 [])
       .skip
       (.exit 0))
     (.seq (.block 1 (.seq (.region [⟨some 11, none, .iaddr 5 (.t 7 []) (.t 9 [])⟩,
         ⟨some 12, none, .load (some 5) (.t 11 [])⟩,
         ⟨some 5, none, .alloc false [I0, I0, S0, (Z 1), (Z 5)] [.deep, .deep, .deep, .deep, .deep]⟩,
         ⟨none, none, .store 5 (.t 5 [5]) (.t 12 [])⟩] [10, 11, 12])
       (.region [⟨some 13, none, .mv false (.t 3 [])⟩,
        ⟨some 14, none, .load (some 5) (.t 5 [5])⟩,
        ⟨some 15, none, .call 74 [(.t 14 [])]⟩,
        ⟨some 16, none, .bin .add (.t 13 []) (.t 15 [])⟩,
        ⟨some 3, none, .take false (.t 16 [])⟩] [5, 13, 14, 15, 16])))
     (.region [⟨some 17, none, .bin .add (.t 9 []) (.c (I 1))⟩,
      ⟨some 9, none, .mv false (.t 17 [])⟩] [17]))))))))
  (.seq (.region [⟨some 18, none, .mv false (.t 3 [])⟩,
    ⟨some 2, none, .take false (.t 18 [])⟩] [3, 7, 8, 9, 10, 18])
  .ret)))),
  [(2, none)], [(false, .deep)]⟩

def a_laws_eqEdit : AFunc := ⟨[true, true], 27,
  (.seq (.region [⟨some 2, none, .box false (.t 0 [])⟩,
    ⟨some 3, none, .box false (.t 1 [])⟩,
    ⟨some 4, none, .take false (.c (.bool false))⟩] [0, 1, 4])
  (.seq (.seq (.region [⟨some 5, none, .faddr 0 (.t 2 [])⟩,
     ⟨some 6, none, .load none (.t 5 [2])⟩,
     ⟨some 7, none, .faddr 0 (.t 3 [])⟩,
     ⟨some 8, none, .load none (.t 7 [3])⟩,
     ⟨some 9, none, .bin .neq (.t 6 []) (.t 8 [])⟩] [5, 6, 7, 8])
   (.cond (.t 9 [])
    (.seq (.region [⟨some 4, none, .take false (.c (.bool false))⟩] [2, 3, 9])
    .ret)
    .skip))
  (.seq (.seq (.region [⟨some 10, none, .faddr 1 (.t 2 [])⟩,
     ⟨some 11, none, .load none (.t 10 [2])⟩,
     ⟨some 12, none, .faddr 1 (.t 3 [])⟩,
     ⟨some 13, none, .load none (.t 12 [3])⟩,
     ⟨some 14, none, .call 15 [(.t 11 []), (.t 13 [])]⟩,
     ⟨some 15, none, .un .not (.t 14 [])⟩] [9, 10, 11, 12, 13, 14])
   (.cond (.t 15 [])
    (.seq (.region [⟨some 4, none, .take false (.c (.bool false))⟩] [2, 3, 15])
    .ret)
    .skip))
  (.seq (.seq (.region [⟨some 16, none, .faddr 2 (.t 2 [])⟩,
     ⟨some 17, none, .load (some 5) (.t 16 [2])⟩,
     ⟨some 18, none, .faddr 2 (.t 3 [])⟩,
     ⟨some 19, none, .load (some 5) (.t 18 [3])⟩,
     ⟨some 20, none, .call 81 [(.t 17 []), (.t 19 [])]⟩,
     ⟨some 21, none, .un .not (.t 20 [])⟩] [15, 16, 17, 18, 19, 20])
   (.cond (.t 21 [])
    (.seq (.region [⟨some 4, none, .take false (.c (.bool false))⟩] [2, 3, 21])
    .ret)
    .skip))
  (.seq (.seq (.region [⟨some 22, none, .faddr 7 (.t 2 [])⟩,
     ⟨some 23, none, .load none (.t 22 [2])⟩,
     ⟨some 24, none, .faddr 7 (.t 3 [])⟩,
     ⟨some 25, none, .load none (.t 24 [3])⟩,
     ⟨some 26, none, .bin .neq (.t 23 []) (.t 25 [])⟩] [2, 3, 21, 23, 25])
   (.cond (.t 26 [])
    (.seq (.region [⟨some 4, none, .take false (.c (.bool false))⟩] [26])
    .ret)
    .skip))
  (.seq (.region [⟨some 4, none, .take false (.c (.bool true))⟩] [26])
  .ret)))))),
  [(4, none)], [(false, .deep)]⟩

def a_laws_szStepS : AFunc := ⟨[false, false], 27,
  (.seq (.region [⟨some 4, none, .take false (.c (I 0))⟩] [4])
  (.seq (.region [⟨some 6, none, .mv false (.t 1 [])⟩,
    ⟨some 7, none, .mv false (.t 0 [])⟩,
    ⟨some 8, none, .len (.t 7 [])⟩,
    ⟨some 9, none, .bin .sub (.t 6 []) (.t 8 [])⟩,
    ⟨some 1, none, .take false (.t 9 [])⟩] [6, 7, 8, 9])
  (.seq (.seq (.region [⟨some 10, none, .mv false (.t 1 [])⟩,
     ⟨some 11, none, .bin .lss (.t 10 []) (.c (I 0))⟩] [10])
   (.cond (.t 11 [])
    (.seq (.region [⟨some 4, none, .take false (.c (I (-1)))⟩] [0, 1, 11])
    .ret)
    .skip))
  (.seq (.seq (.region [⟨some 5, none, .take false (.c (I 0))⟩] [11])
   (.block 0 (.pre [.kill [4, 12, 13, 14, 15, 16, 17, 18, 19, 20, 21, 22, 23, 24, 25]] (.loop (.seq (.seq (.region [⟨some 12, none, .mv false (.t 5 [])⟩,
        ⟨some 13, none, .mv false (.t 0 [])⟩,
        ⟨some 14, none, .len (.t 13 [])⟩,
        ⟨some 15, none, .bin .lss (.t 12 []) (.t 14 [])⟩] [12, 13, 14])
      (.cond (.t 15 [])
       .skip
       (.exit 0)))
     (.seq (.block 1 (.seq (.region [⟨some 18, none, .mv false (.t 0 [])⟩,
         ⟨some 19, none, .mv false (.t 5 [])⟩,
         ⟨some 20, none, .iaddr 3 (.t 18 []) (.t 19 [])⟩,
         ⟨some 21, none, .load (some 3) (.t 20 [])⟩,
         ⟨some 22, none, .mv false (.t 1 [])⟩,
         ⟨some 23, none, .call 59 [(.t 21 []), (.t 22 [])]⟩,
         ⟨some 1, none, .take false (.t 23 [])⟩] [15, 18, 19, 20, 21, 22, 23])
       (.seq (.region [⟨some 24, none, .mv false (.t 1 [])⟩,
         ⟨some 25, none, .bin .lss (.t 24 []) (.c (I 0))⟩] [24])
       (.cond (.t 25 [])
        (.seq (.region [⟨some 4, none, .take false (.c (I (-1)))⟩] [0, 1, 5, 25])
        .ret)
        .skip))))
     (.region [⟨some 16, none, .mv false (.t 5 [])⟩,
      ⟨some 17, none, .bin .add (.t 16 []) (.c (I 1))⟩,
      ⟨some 5, none, .take false (.t 17 [])⟩] [16, 17, 25])))))))
  (.seq (.region [⟨some 26, none, .mv false (.t 1 [])⟩,
    ⟨some 4, none, .take false (.t 26 [])⟩] [0, 1, 5, 15, 26])
  .ret))))),
  [(4, none)], [(false, .deep)]⟩

def a_laws_szValue : AFunc := ⟨[true, false], 25,
  (.seq (.region [⟨some 2, none, .box false (.t 0 [])⟩,
    ⟨some 4, none, .take false (.c (I 0))⟩] [0, 4])
  (.seq (.region [⟨some 5, none, .mv false (.t 1 [])⟩,
    ⟨some 6, none, .faddr 2 (.t 2 [])⟩,
    ⟨some 7, none, .load none (.t 6 [2])⟩,
    ⟨some 8, none, .lenS (.t 7 [])⟩,
    ⟨some 9, none, .bin .sub (.t 5 []) (.t 8 [])⟩,
    ⟨some 1, none, .take false (.t 9 [])⟩] [5, 6, 7, 8, 9])
  (.seq (.seq (.region [⟨some 10, none, .mv false (.t 1 [])⟩,
     ⟨some 11, none, .bin .lss (.t 10 []) (.c (I 0))⟩] [10])
   (.cond (.t 11 [])
    (.seq (.region [⟨some 4, none, .take false (.c (I (-1)))⟩] [1, 2, 11])
    .ret)
    .skip))
  (.seq (.region [⟨some 12, none, .faddr 3 (.t 2 [])⟩,
    ⟨some 13, none, .load none (.t 12 [2])⟩,
    ⟨some 14, none, .mv false (.t 1 [])⟩,
    ⟨some 15, none, .call 97 [(.t 13 []), (.t 14 [])]⟩,
    ⟨some 1, none, .take false (.t 15 [])⟩] [11, 12, 13, 14, 15])
  (.seq (.seq (.region [⟨some 16, none, .mv false (.t 1 [])⟩,
     ⟨some 17, none, .bin .lss (.t 16 []) (.c (I 0))⟩] [16])
   (.cond (.t 17 [])
    (.seq (.region [⟨some 4, none, .take false (.c (I (-1)))⟩] [1, 2, 17])
    .ret)
    .skip))
  (.seq (.region [⟨some 18, none, .faddr 4 (.t 2 [])⟩,
    ⟨some 19, none, .load none (.t 18 [2])⟩,
    ⟨some 20, none, .mv false (.t 1 [])⟩,
    ⟨some 21, none, .call 98 [(.t 19 []), (.t 20 [])]⟩,
    ⟨some 1, none, .take false (.t 21 [])⟩] [2, 17, 19, 20, 21])
  (.seq (.seq (.region [⟨some 22, none, .mv false (.t 1 [])⟩,
     ⟨some 23, none, .bin .lss (.t 22 []) (.c (I 0))⟩] [22])
   (.cond (.t 23 [])
    (.seq (.region [⟨some 4, none, .take false (.c (I (-1)))⟩] [1, 23])
    .ret)
    .skip))
  (.seq (.region [⟨some 24, none, .mv false (.t 1 [])⟩,
    ⟨some 4, none, .take false (.t 24 [])⟩] [1, 23, 24])
  .ret)))))))),
  [(4, none)], [(false, .deep)]⟩

def a_laws_toStepS : AFunc := ⟨[false], 23,
  (.seq (.region [⟨some 2, none, .take false (.c (Z 3))⟩] [2])
  (.seq (.region [⟨some 5, none, .mv false (.t 0 [])⟩,
    ⟨some 6, none, .len (.t 5 [])⟩,
    ⟨some 7, none, .make .deep 3 [I0, S0, I0] (.t 6 [])⟩,
    ⟨some 3, none, .take false (.t 7 [])⟩] [5, 6, 7])
  (.seq (.seq (.region [⟨some 4, none, .take false (.c (I 0))⟩] [])
   (.block 0 (.pre [.kill [8, 9, 10, 11, 12, 13, 14, 15, 16, 17, 18, 19, 20, 21]] (.loop (.seq (.seq (.region [⟨some 8, none, .mv false (.t 4 [])⟩,
        ⟨some 9, none, .mv false (.t 0 [])⟩,
        ⟨some 10, none, .len (.t 9 [])⟩,
        ⟨some 11, none, .bin .lss (.t 8 []) (.t 10 [])⟩] [8, 9, 10])
      (.cond (.t 11 [])
       .skip
       (.exit 0)))
     (.seq (.block 1 (.region [⟨some 14, none, .mv false (.t 3 [])⟩,
        ⟨some 15, none, .mv false (.t 4 [])⟩,
        ⟨some 16, none, .mv false (.t 0 [])⟩,
        ⟨some 17, none, .mv false (.t 4 [])⟩,
        ⟨some 18, none, .iaddr 3 (.t 16 []) (.t 17 [])⟩,
        ⟨some 19, none, .load (some 3) (.t 18 [])⟩,
        ⟨some 20, none, .call 60 [(.t 19 [])]⟩,
        ⟨some 21, none, .iaddr 3 (.t 14 [3]) (.t 15 [])⟩,
        ⟨none, none, .store 3 (.t 21 [3]) (.t 20 [])⟩] [11, 14, 15, 16, 17, 18, 19, 20]))
     (.region [⟨some 12, none, .mv false (.t 4 [])⟩,
      ⟨some 13, none, .bin .add (.t 12 []) (.c (I 1))⟩,
      ⟨some 4, none, .take false (.t 13 [])⟩] [12, 13])))))))
  (.seq (.region [⟨some 22, none, .mv false (.t 3 [])⟩,
    ⟨some 2, none, .take false (.t 22 [3])⟩] [0, 3, 4, 11, 22])
  .ret)))),
  [(2, none)], [(false, .deep)]⟩

def a_laws_toValue : AFunc := ⟨[true], 22,
  (.seq (.region [⟨some 1, none, .box false (.t 0 [])⟩,
    ⟨some 2, none, .alloc false [I0, I0, S0, (Z 1), (Z 5)] [.deep, .deep, .deep, .deep, .deep]⟩] [0])
  (.seq (.region [⟨some 3, none, .alloc false [I0, I0, S0, (Z 1), (Z 5)] [.deep, .deep, .deep, .deep, .deep]⟩] [])
  (.seq (.region [⟨some 4, none, .faddr 0 (.t 1 [])⟩,
    ⟨some 5, none, .load none (.t 4 [1])⟩,
    ⟨some 6, none, .faddr 0 (.t 3 [])⟩,
    ⟨none, none, .store 1 (.t 6 [3]) (.t 5 [])⟩] [4, 5, 6])
  (.seq (.region [⟨some 7, none, .faddr 1 (.t 1 [])⟩,
    ⟨some 8, none, .load none (.t 7 [1])⟩,
    ⟨some 9, none, .faddr 1 (.t 3 [])⟩,
    ⟨none, none, .store 1 (.t 9 [3]) (.t 8 [])⟩] [7, 8, 9])
  (.seq (.region [⟨some 10, none, .faddr 2 (.t 1 [])⟩,
    ⟨some 11, none, .load none (.t 10 [1])⟩,
    ⟨some 12, none, .faddr 2 (.t 3 [])⟩,
    ⟨none, none, .store 1 (.t 12 [3]) (.t 11 [])⟩] [10, 11, 12])
  (.seq (.region [⟨some 13, none, .faddr 3 (.t 1 [])⟩,
    ⟨some 14, none, .load none (.t 13 [1])⟩,
    ⟨some 15, none, .call 100 [(.t 14 [])]⟩,
    ⟨some 16, none, .faddr 3 (.t 3 [])⟩,
    ⟨none, none, .store 1 (.t 16 [3]) (.t 15 [])⟩] [13, 14, 15, 16])
  (.seq (.region [⟨some 17, none, .faddr 4 (.t 1 [])⟩,
    ⟨some 18, none, .load none (.t 17 [1])⟩,
    ⟨some 19, none, .call 101 [(.t 18 [])]⟩,
    ⟨some 20, none, .faddr 4 (.t 3 [])⟩,
    ⟨none, none, .store 1 (.t 20 [3]) (.t 19 [])⟩] [1, 18, 19, 20])
  (.seq (.region [⟨some 21, none, .load (some 5) (.t 3 [3])⟩,
    ⟨none, none, .store 5 (.t 2 [2]) (.t 21 [3])⟩] [3, 21])
  .ret)))))))),
  [(2, some 5)], [(true, .deep)]⟩

def a_laws_eqStepS : AFunc := ⟨[false, false], 27,
  (.seq (.region [⟨some 4, none, .take false (.c (.bool false))⟩] [4])
  (.seq (.seq (.region [⟨some 6, none, .mv false (.t 0 [])⟩,
     ⟨some 7, none, .len (.t 6 [])⟩,
     ⟨some 8, none, .mv false (.t 1 [])⟩,
     ⟨some 9, none, .len (.t 8 [])⟩,
     ⟨some 10, none, .bin .neq (.t 7 []) (.t 9 [])⟩] [6, 7, 8, 9])
   (.cond (.t 10 [])
    (.seq (.region [⟨some 4, none, .take false (.c (.bool false))⟩] [0, 1, 10])
    .ret)
    .skip))
  (.seq (.seq (.region [⟨some 5, none, .take false (.c (I 0))⟩] [10])
   (.block 0 (.pre [.kill [4, 11, 12, 13, 14, 15, 16, 17, 18, 19, 20, 21, 22, 23, 24, 25, 26]] (.loop (.seq (.seq (.region [⟨some 11, none, .mv false (.t 5 [])⟩,
        ⟨some 12, none, .mv false (.t 0 [])⟩,
        ⟨some 13, none, .len (.t 12 [])⟩,
        ⟨some 14, none, .bin .lss (.t 11 []) (.t 13 [])⟩] [11, 12, 13])
      (.cond (.t 14 [])
       .skip
       (.exit 0)))
     (.seq (.block 1 (.seq (.region [⟨some 17, none, .mv false (.t 0 [])⟩,
         ⟨some 18, none, .mv false (.t 5 [])⟩,
         ⟨some 19, none, .iaddr 3 (.t 17 []) (.t 18 [])⟩,
         ⟨some 20, none, .load (some 3) (.t 19 [])⟩,
         ⟨some 21, none, .mv false (.t 1 [])⟩,
         ⟨some 22, none, .mv false (.t 5 [])⟩,
         ⟨some 23, none, .iaddr 3 (.t 21 []) (.t 22 [])⟩,
         ⟨some 24, none, .load (some 3) (.t 23 [])⟩,
         ⟨some 25, none, .call 61 [(.t 20 []), (.t 24 [])]⟩,
         ⟨some 26, none, .un .not (.t 25 [])⟩] [14, 17, 18, 19, 20, 21, 22, 23, 24, 25])
       (.cond (.t 26 [])
        (.seq (.region [⟨some 4, none, .take false (.c (.bool false))⟩] [0, 1, 5, 26])
        .ret)
        .skip)))
     (.region [⟨some 15, none, .mv false (.t 5 [])⟩,
      ⟨some 16, none, .bin .add (.t 15 []) (.c (I 1))⟩,
      ⟨some 5, none, .take false (.t 16 [])⟩] [15, 16, 26])))))))
  (.seq (.region [⟨some 4, none, .take false (.c (.bool true))⟩] [0, 1, 5, 14])
  .ret)))),
  [(4, none)], [(false, .deep)]⟩

def a_laws_eqValue : AFunc := ⟨[true, true], 32,
  (.seq (.region [⟨some 2, none, .box false (.t 0 [])⟩,
    ⟨some 3, none, .box false (.t 1 [])⟩,
    ⟨some 4, none, .take false (.c (.bool false))⟩] [0, 1, 4])
  (.seq (.seq (.region [⟨some 5, none, .faddr 0 (.t 2 [])⟩,
     ⟨some 6, none, .load none (.t 5 [2])⟩,
     ⟨some 7, none, .faddr 0 (.t 3 [])⟩,
     ⟨some 8, none, .load none (.t 7 [3])⟩,
     ⟨some 9, none, .bin .neq (.t 6 []) (.t 8 [])⟩] [5, 6, 7, 8])
   (.cond (.t 9 [])
    (.seq (.region [⟨some 4, none, .take false (.c (.bool false))⟩] [2, 3, 9])
    .ret)
    .skip))
  (.seq (.seq (.region [⟨some 10, none, .faddr 1 (.t 2 [])⟩,
     ⟨some 11, none, .load none (.t 10 [2])⟩,
     ⟨some 12, none, .faddr 1 (.t 3 [])⟩,
     ⟨some 13, none, .load none (.t 12 [3])⟩,
     ⟨some 14, none, .bin .neq (.t 11 []) (.t 13 [])⟩] [9, 10, 11, 12, 13])
   (.cond (.t 14 [])
    (.seq (.region [⟨some 4, none, .take false (.c (.bool false))⟩] [2, 3, 14])
    .ret)
    .skip))
  (.seq (.seq (.region [⟨some 15, none, .faddr 2 (.t 2 [])⟩,
     ⟨some 16, none, .load none (.t 15 [2])⟩,
     ⟨some 17, none, .faddr 2 (.t 3 [])⟩,
     ⟨some 18, none, .load none (.t 17 [3])⟩,
     ⟨some 19, none, .bin .neq (.t 16 []) (.t 18 [])⟩] [14, 15, 16, 17, 18])
   (.cond (.t 19 [])
    (.seq (.region [⟨some 4, none, .take false (.c (.bool false))⟩] [2, 3, 19])
    .ret)
    .skip))
  (.seq (.seq (.region [⟨some 20, none, .faddr 3 (.t 2 [])⟩,
     ⟨some 21, none, .load none (.t 20 [2])⟩,
     ⟨some 22, none, .faddr 3 (.t 3 [])⟩,
     ⟨some 23, none, .load none (.t 22 [3])⟩,
     ⟨some 24, none, .call 103 [(.t 21 []), (.t 23 [])]⟩,
     ⟨some 25, none, .un .not (.t 24 [])⟩] [19, 20, 21, 22, 23, 24])
   (.cond (.t 25 [])
    (.seq (.region [⟨some 4, none, .take false (.c (.bool false))⟩] [2, 3, 25])
    .ret)
    .skip))
  (.seq (.seq (.region [⟨some 26, none, .faddr 4 (.t 2 [])⟩,
     ⟨some 27, none, .load none (.t 26 [2])⟩,
     ⟨some 28, none, .faddr 4 (.t 3 [])⟩,
     ⟨some 29, none, .load none (.t 28 [3])⟩,
     ⟨some 30, none, .call 104 [(.t 27 []), (.t 29 [])]⟩,
     ⟨some 31, none, .un .not (.t 30 [])⟩] [2, 3, 25, 27, 29, 30])
   (.cond (.t 31 [])
    (.seq (.region [⟨some 4, none, .take false (.c (.bool false))⟩] [31])
    .ret)
    .skip))
  (.seq (.region [⟨some 4, none, .take false (.c (.bool true))⟩] [31])
  .ret))))))),
  [(4, none)], [(false, .deep)]⟩

def a_laws_szStep : AFunc := ⟨[true, false], 13,
  (.seq (.region [⟨some 2, none, .box false (.t 0 [])⟩,
    ⟨some 4, none, .take false (.c (I 0))⟩] [0, 4])
  (.seq (.region [⟨some 5, none, .mv false (.t 1 [])⟩,
    ⟨some 6, none, .faddr 1 (.t 2 [])⟩,
    ⟨some 7, none, .load none (.t 6 [2])⟩,
    ⟨some 8, none, .lenS (.t 7 [])⟩,
    ⟨some 9, none, .bin .sub (.t 5 []) (.t 8 [])⟩,
    ⟨some 1, none, .take false (.t 9 [])⟩] [2, 5, 7, 8, 9])
  (.seq (.seq (.region [⟨some 10, none, .mv false (.t 1 [])⟩,
     ⟨some 11, none, .bin .lss (.t 10 []) (.c (I 0))⟩] [10])
   (.cond (.t 11 [])
    (.seq (.region [⟨some 4, none, .take false (.c (I (-1)))⟩] [1, 11])
    .ret)
    .skip))
  (.seq (.region [⟨some 12, none, .mv false (.t 1 [])⟩,
    ⟨some 4, none, .take false (.t 12 [])⟩] [1, 11, 12])
  .ret)))),
  [(4, none)], [(false, .deep)]⟩

def a_laws_szStringS : AFunc := ⟨[false, false], 28,
  (.seq (.region [⟨some 4, none, .take false (.c (I 0))⟩] [4])
  (.seq (.region [⟨some 6, none, .mv false (.t 1 [])⟩,
    ⟨some 7, none, .mv false (.t 0 [])⟩,
    ⟨some 8, none, .len (.t 7 [])⟩,
    ⟨some 9, none, .bin .sub (.t 6 []) (.t 8 [])⟩,
    ⟨some 1, none, .take false (.t 9 [])⟩] [6, 7, 8, 9])
  (.seq (.seq (.region [⟨some 10, none, .mv false (.t 1 [])⟩,
     ⟨some 11, none, .bin .lss (.t 10 []) (.c (I 0))⟩] [10])
   (.cond (.t 11 [])
    (.seq (.region [⟨some 4, none, .take false (.c (I (-1)))⟩] [0, 1, 11])
    .ret)
    .skip))
  (.seq (.seq (.region [⟨some 5, none, .take false (.c (I 0))⟩] [11])
   (.block 0 (.pre [.kill [4, 12, 13, 14, 15, 16, 17, 18, 19, 20, 21, 22, 23, 24, 25, 26]] (.loop (.seq (.seq (.region [⟨some 12, none, .mv false (.t 5 [])⟩,
        ⟨some 13, none, .mv false (.t 0 [])⟩,
        ⟨some 14, none, .len (.t 13 [])⟩,
        ⟨some 15, none, .bin .lss (.t 12 []) (.t 14 [])⟩] [12, 13, 14])
      (.cond (.t 15 [])
       .skip
       (.exit 0)))
     (.seq (.block 1 (.seq (.region [⟨some 18, none, .mv false (.t 1 [])⟩,
         ⟨some 19, none, .mv false (.t 0 [])⟩,
         ⟨some 20, none, .mv false (.t 5 [])⟩,
         ⟨some 21, none, .iaddr 1 (.t 19 []) (.t 20 [])⟩,
         ⟨some 22, none, .load none (.t 21 [])⟩,
         ⟨some 23, none, .lenS (.t 22 [])⟩,
         ⟨some 24, none, .bin .sub (.t 18 []) (.t 23 [])⟩,
         ⟨some 1, none, .take false (.t 24 [])⟩] [15, 18, 19, 20, 21, 22, 23, 24])
       (.seq (.region [⟨some 25, none, .mv false (.t 1 [])⟩,
         ⟨some 26, none, .bin .lss (.t 25 []) (.c (I 0))⟩] [25])
       (.cond (.t 26 [])
        (.seq (.region [⟨some 4, none, .take false (.c (I (-1)))⟩] [0, 1, 5, 26])
        .ret)
        .skip))))
     (.region [⟨some 16, none, .mv false (.t 5 [])⟩,
      ⟨some 17, none, .bin .add (.t 16 []) (.c (I 1))⟩,
      ⟨some 5, none, .take false (.t 17 [])⟩] [16, 17, 26])))))))
  (.seq (.region [⟨some 27, none, .mv false (.t 1 [])⟩,
    ⟨some 4, none, .take false (.t 27 [])⟩] [0, 1, 5, 15, 27])
  .ret))))),
  [(4, none)], [(false, .deep)]⟩

def a_laws_szValueS : AFunc := ⟨[false, false], 27,
  (.seq (.region [⟨some 4, none, .take false (.c (I 0))⟩] [4])
  (.seq (.region [⟨some 6, none, .mv false (.t 1 [])⟩,
    ⟨some 7, none, .mv false (.t 0 [])⟩,
    ⟨some 8, none, .len (.t 7 [])⟩,
    ⟨some 9, none, .bin .sub (.t 6 []) (.t 8 [])⟩,
    ⟨some 1, none, .take false (.t 9 [])⟩] [6, 7, 8, 9])
  (.seq (.seq (.region [⟨some 10, none, .mv false (.t 1 [])⟩,
     ⟨some 11, none, .bin .lss (.t 10 []) (.c (I 0))⟩] [10])
   (.cond (.t 11 [])
    (.seq (.region [⟨some 4, none, .take false (.c (I (-1)))⟩] [0, 1, 11])
    .ret)
    .skip))
  (.seq (.seq (.region [⟨some 5, none, .take false (.c (I 0))⟩] [11])
   (.block 0 (.pre [.kill [4, 12, 13, 14, 15, 16, 17, 18, 19, 20, 21, 22, 23, 24, 25]] (.loop (.seq (.seq (.region [⟨some 12, none, .mv false (.t 5 [])⟩,
        ⟨some 13, none, .mv false (.t 0 [])⟩,
        ⟨some 14, none, .len (.t 13 [])⟩,
        ⟨some 15, none, .bin .lss (.t 12 []) (.t 14 [])⟩] [12, 13, 14])
      (.cond (.t 15 [])
       .skip
       (.exit 0)))
     (.seq (.block 1 (.seq (.region [⟨some 18, none, .mv false (.t 0 [])⟩,
         ⟨some 19, none, .mv false (.t 5 [])⟩,
         ⟨some 20, none, .iaddr 5 (.t 18 []) (.t 19 [])⟩,
         ⟨some 21, none, .load (some 5) (.t 20 [])⟩,
         ⟨some 22, none, .mv false (.t 1 [])⟩,
         ⟨some 23, none, .call 76 [(.t 21 []), (.t 22 [])]⟩,
         ⟨some 1, none, .take false (.t 23 [])⟩] [15, 18, 19, 20, 21, 22, 23])
       (.seq (.region [⟨some 24, none, .mv false (.t 1 [])⟩,
         ⟨some 25, none, .bin .lss (.t 24 []) (.c (I 0))⟩] [24])
       (.cond (.t 25 [])
        (.seq (.region [⟨some 4, none, .take false (.c (I (-1)))⟩] [0, 1, 5, 25])
        .ret)
        .skip))))
     (.region [⟨some 16, none, .mv false (.t 5 [])⟩,
      ⟨some 17, none, .bin .add (.t 16 []) (.c (I 1))⟩,
      ⟨some 5, none, .take false (.t 17 [])⟩] [16, 17, 25])))))))
  (.seq (.region [⟨some 26, none, .mv false (.t 1 [])⟩,
    ⟨some 4, none, .take false (.t 26 [])⟩] [0, 1, 5, 15, 26])
  .ret))))),
  [(4, none)], [(false, .deep)]⟩

def a_laws_toStep : AFunc := ⟨[true], 14,
  (.seq (.region [⟨some 1, none, .box false (.t 0 [])⟩,
    ⟨some 2, none, .alloc false [I0, S0, I0] [.deep, .deep, .deep]⟩] [0])
  (.seq (.region [⟨some 3, none, .alloc false [I0, S0, I0] [.deep, .deep, .deep]⟩] [])
  (.seq (.region [⟨some 4, none, .faddr 0 (.t 1 [])⟩,
    ⟨some 5, none, .load none (.t 4 [1])⟩,
    ⟨some 6, none, .faddr 0 (.t 3 [])⟩,
    ⟨none, none, .store 1 (.t 6 [3]) (.t 5 [])⟩] [4, 5, 6])
  (.seq (.region [⟨some 7, none, .faddr 1 (.t 1 [])⟩,
    ⟨some 8, none, .load none (.t 7 [1])⟩,
    ⟨some 9, none, .faddr 1 (.t 3 [])⟩,
    ⟨none, none, .store 1 (.t 9 [3]) (.t 8 [])⟩] [7, 8, 9])
  (.seq (.region [⟨some 10, none, .faddr 2 (.t 1 [])⟩,
    ⟨some 11, none, .load none (.t 10 [1])⟩,
    ⟨some 12, none, .faddr 2 (.t 3 [])⟩,
    ⟨none, none, .store 1 (.t 12 [3]) (.t 11 [])⟩] [1, 11, 12])
  (.seq (.region [⟨some 13, none, .load (some 3) (.t 3 [3])⟩,
    ⟨none, none, .store 3 (.t 2 [2]) (.t 13 [])⟩] [3, 13])
  .ret)))))),
  [(2, some 3)], [(true, .deep)]⟩

def a_laws_toStringS : AFunc := ⟨[false], 22,
  (.seq (.region [⟨some 2, none, .take false (.c (Z 1))⟩] [2])
  (.seq (.region [⟨some 5, none, .mv false (.t 0 [])⟩,
    ⟨some 6, none, .len (.t 5 [])⟩,
    ⟨some 7, none, .make .deep 1 [S0] (.t 6 [])⟩,
    ⟨some 3, none, .take false (.t 7 [])⟩] [5, 6, 7])
  (.seq (.seq (.region [⟨some 4, none, .take false (.c (I 0))⟩] [])
   (.block 0 (.pre [.kill [8, 9, 10, 11, 12, 13, 14, 15, 16, 17, 18, 19, 20]] (.loop (.seq (.seq (.region [⟨some 8, none, .mv false (.t 4 [])⟩,
        ⟨some 9, none, .mv false (.t 0 [])⟩,
        ⟨some 10, none, .len (.t 9 [])⟩,
        ⟨some 11, none, .bin .lss (.t 8 []) (.t 10 [])⟩] [8, 9, 10])
      (.cond (.t 11 [])
       .skip
       (.exit 0)))
     (.seq (.block 1 (.region [⟨some 14, none, .mv false (.t 3 [])⟩,
        ⟨some 15, none, .mv false (.t 4 [])⟩,
        ⟨some 16, none, .mv false (.t 0 [])⟩,
        ⟨some 17, none, .mv false (.t 4 [])⟩,
        ⟨some 18, none, .iaddr 1 (.t 16 []) (.t 17 [])⟩,
        ⟨some 19, none, .load none (.t 18 [])⟩,
        ⟨some 20, none, .iaddr 1 (.t 14 [3]) (.t 15 [])⟩,
        ⟨none, none, .store 1 (.t 20 [3]) (.t 19 [])⟩] [11, 14, 15, 16, 17, 18, 19]))
     (.region [⟨some 12, none, .mv false (.t 4 [])⟩,
      ⟨some 13, none, .bin .add (.t 12 []) (.c (I 1))⟩,
      ⟨some 4, none, .take false (.t 13 [])⟩] [12, 13])))))))
  (.seq (.region [⟨some 21, none, .mv false (.t 3 [])⟩,
    ⟨some 2, none, .take false (.t 21 [3])⟩] [0, 3, 4, 11, 21])
  .ret)))),
  [(2, none)], [(false, .deep)]⟩

def a_laws_toValueS : AFunc := ⟨[false], 23,
  (.seq (.region [⟨some 2, none, .take false (.c (Z 5))⟩] [2])
  (.seq (.region [⟨some 5, none, .mv false (.t 0 [])⟩,
    ⟨some 6, none, .len (.t 5 [])⟩,
    ⟨some 7, none, .make .deep 5 [I0, I0, S0, (Z 1), (Z 5)] (.t 6 [])⟩,
    ⟨some 3, none, .take false (.t 7 [])⟩] [5, 6, 7])
  (.seq (.seq (.region [⟨some 4, none, .take false (.c (I 0))⟩] [])
   (.block 0 (.pre [.kill [8, 9, 10, 11, 12, 13, 14, 15, 16, 17, 18, 19, 20, 21]] (.loop (.seq (.seq (.region [⟨some 8, none, .mv false (.t 4 [])⟩,
        ⟨some 9, none, .mv false (.t 0 [])⟩,
        ⟨some 10, none, .len (.t 9 [])⟩,
        ⟨some 11, none, .bin .lss (.t 8 []) (.t 10 [])⟩] [8, 9, 10])
      (.cond (.t 11 [])
       .skip
       (.exit 0)))
     (.seq (.block 1 (.region [⟨some 14, none, .mv false (.t 3 [])⟩,
        ⟨some 15, none, .mv false (.t 4 [])⟩,
        ⟨some 16, none, .mv false (.t 0 [])⟩,
        ⟨some 17, none, .mv false (.t 4 [])⟩,
        ⟨some 18, none, .iaddr 5 (.t 16 []) (.t 17 [])⟩,
        ⟨some 19, none, .load (some 5) (.t 18 [])⟩,
        ⟨some 20, none, .call 78 [(.t 19 [])]⟩,
        ⟨some 21, none, .iaddr 5 (.t 14 [3]) (.t 15 [])⟩,
        ⟨none, none, .store 5 (.t 21 [3]) (.t 20 [])⟩] [11, 14, 15, 16, 17, 18, 19, 20]))
     (.region [⟨some 12, none, .mv false (.t 4 [])⟩,
      ⟨some 13, none, .bin .add (.t 12 []) (.c (I 1))⟩,
      ⟨some 4, none, .take false (.t 13 [])⟩] [12, 13])))))))
  (.seq (.region [⟨some 22, none, .mv false (.t 3 [])⟩,
    ⟨some 2, none, .take false (.t 22 [3])⟩] [0, 3, 4, 11, 22])
  .ret)))),
  [(2, none)], [(false, .deep)]⟩

def a_laws_eqStep : AFunc := ⟨[true, true], 20,
  (.seq (.region [⟨some 2, none, .box false (.t 0 [])⟩,
    ⟨some 3, none, .box false (.t 1 [])⟩,
    ⟨some 4, none, .take false (.c (.bool false))⟩] [0, 1, 4])
  (.seq (.seq (.region [⟨some 5, none, .faddr 0 (.t 2 [])⟩,
     ⟨some 6, none, .load none (.t 5 [2])⟩,
     ⟨some 7, none, .faddr 0 (.t 3 [])⟩,
     ⟨some 8, none, .load none (.t 7 [3])⟩,
     ⟨some 9, none, .bin .neq (.t 6 []) (.t 8 [])⟩] [5, 6, 7, 8])
   (.cond (.t 9 [])
    (.seq (.region [⟨some 4, none, .take false (.c (.bool false))⟩] [2, 3, 9])
    .ret)
    .skip))
  (.seq (.seq (.region [⟨some 10, none, .faddr 1 (.t 2 [])⟩,
     ⟨some 11, none, .load none (.t 10 [2])⟩,
     ⟨some 12, none, .faddr 1 (.t 3 [])⟩,
     ⟨some 13, none, .load none (.t 12 [3])⟩,
     ⟨some 14, none, .bin .neq (.t 11 []) (.t 13 [])⟩] [9, 10, 11, 12, 13])
   (.cond (.t 14 [])
    (.seq (.region [⟨some 4, none, .take false (.c (.bool false))⟩] [2, 3, 14])
    .ret)
    .skip))
  (.seq (.seq (.region [⟨some 15, none, .faddr 2 (.t 2 [])⟩,
     ⟨some 16, none, .load none (.t 15 [2])⟩,
     ⟨some 17, none, .faddr 2 (.t 3 [])⟩,
     ⟨some 18, none, .load none (.t 17 [3])⟩,
     ⟨some 19, none, .bin .neq (.t 16 []) (.t 18 [])⟩] [2, 3, 14, 16, 18])
   (.cond (.t 19 [])
    (.seq (.region [⟨some 4, none, .take false (.c (.bool false))⟩] [19])
    .ret)
    .skip))
  (.seq (.region [⟨some 4, none, .take false (.c (.bool true))⟩] [19])
  .ret))))),
  [(4, none)], [(false, .deep)]⟩

def a_laws_eqStringS : AFunc := ⟨[false, false], 26,
  (.seq (.region [⟨some 4, none, .take false (.c (.bool false))⟩] [4])
  (.seq (.seq (.region [⟨some 6, none, .mv false (.t 0 [])⟩,
     ⟨some 7, none, .len (.t 6 [])⟩,
     ⟨some 8, none, .mv false (.t 1 [])⟩,
     ⟨some 9, none, .len (.t 8 [])⟩,
     ⟨some 10, none, .bin .neq (.t 7 []) (.t 9 [])⟩] [6, 7, 8, 9])
   (.cond (.t 10 [])
    (.seq (.region [⟨some 4, none, .take false (.c (.bool false))⟩] [0, 1, 10])
    .ret)
    .skip))
  (.seq (.seq (.region [⟨some 5, none, .take false (.c (I 0))⟩] [10])
   (.block 0 (.pre [.kill [4, 11, 12, 13, 14, 15, 16, 17, 18, 19, 20, 21, 22, 23, 24, 25]] (.loop (.seq (.seq (.region [⟨some 11, none, .mv false (.t 5 [])⟩,
        ⟨some 12, none, .mv false (.t 0 [])⟩,
        ⟨some 13, none, .len (.t 12 [])⟩,
        ⟨some 14, none, .bin .lss (.t 11 []) (.t 13 [])⟩] [11, 12, 13])
      (.cond (.t 14 [])
       .skip
       (.exit 0)))
     (.seq (.block 1 (.seq (.region [⟨some 17, none, .mv false (.t 0 [])⟩,
         ⟨some 18, none, .mv false (.t 5 [])⟩,
         ⟨some 19, none, .iaddr 1 (.t 17 []) (.t 18 [])⟩,
         ⟨some 20, none, .load none (.t 19 [])⟩,
         ⟨some 21, none, .mv false (.t 1 [])⟩,
         ⟨some 22, none, .mv false (.t 5 [])⟩,
         ⟨some 23, none, .iaddr 1 (.t 21 []) (.t 22 [])⟩,
         ⟨some 24, none, .load none (.t 23 [])⟩,
         ⟨some 25, none, .bin .neq (.t 20 []) (.t 24 [])⟩] [14, 17, 18, 19, 20, 21, 22, 23, 24])
       (.cond (.t 25 [])
        (.seq (.region [⟨some 4, none, .take false (.c (.bool false))⟩] [0, 1, 5, 25])
        .ret)
        .skip)))
     (.region [⟨some 15, none, .mv false (.t 5 [])⟩,
      ⟨some 16, none, .bin .add (.t 15 []) (.c (I 1))⟩,
      ⟨some 5, none, .take false (.t 16 [])⟩] [15, 16, 25])))))))
  (.seq (.region [⟨some 4, none, .take false (.c (.bool true))⟩] [0, 1, 5, 14])
  .ret)))),
  [(4, none)], [(false, .deep)]⟩

def a_laws_eqValueS : AFunc := ⟨[false, false], 27,
  (.seq (.region [⟨some 4, none, .take false (.c (.bool false))⟩] [4])
  (.seq (.seq (.region [⟨some 6, none, .mv false (.t 0 [])⟩,
     ⟨some 7, none, .len (.t 6 [])⟩,
     ⟨some 8, none, .mv false (.t 1 [])⟩,
     ⟨some 9, none, .len (.t 8 [])⟩,
     ⟨some 10, none, .bin .neq (.t 7 []) (.t 9 [])⟩] [6, 7, 8, 9])
   (.cond (.t 10 [])
    (.seq (.region [⟨some 4, none, .take false (.c (.bool false))⟩] [0, 1, 10])
    .ret)
    .skip))
  (.seq (.seq (.region [⟨some 5, none, .take false (.c (I 0))⟩] [10])
   (.block 0 (.pre [.kill [4, 11, 12, 13, 14, 15, 16, 17, 18, 19, 20, 21, 22, 23, 24, 25, 26]] (.loop (.seq (.seq (.region [⟨some 11, none, .mv false (.t 5 [])⟩,
        ⟨some 12, none, .mv false (.t 0 [])⟩,
        ⟨some 13, none, .len (.t 12 [])⟩,
        ⟨some 14, none, .bin .lss (.t 11 []) (.t 13 [])⟩] [11, 12, 13])
      (.cond (.t 14 [])
       .skip
       (.exit 0)))
     (.seq (.block 1 (.seq (.region [⟨some 17, none, .mv false (.t 0 [])⟩,
         ⟨some 18, none, .mv false (.t 5 [])⟩,
         ⟨some 19, none, .iaddr 5 (.t 17 []) (.t 18 [])⟩,
         ⟨some 20, none, .load (some 5) (.t 19 [])⟩,
         ⟨some 21, none, .mv false (.t 1 [])⟩,
         ⟨some 22, none, .mv false (.t 5 [])⟩,
         ⟨some 23, none, .iaddr 5 (.t 21 []) (.t 22 [])⟩,
         ⟨some 24, none, .load (some 5) (.t 23 [])⟩,
         ⟨some 25, none, .call 81 [(.t 20 []), (.t 24 [])]⟩,
         ⟨some 26, none, .un .not (.t 25 [])⟩] [14, 17, 18, 19, 20, 21, 22, 23, 24, 25])
       (.cond (.t 26 [])
        (.seq (.region [⟨some 4, none, .take false (.c (.bool false))⟩] [0, 1, 5, 26])
        .ret)
        .skip)))
     (.region [⟨some 15, none, .mv false (.t 5 [])⟩,
      ⟨some 16, none, .bin .add (.t 15 []) (.c (I 1))⟩,
      ⟨some 5, none, .take false (.t 16 [])⟩] [15, 16, 26])))))))
  (.seq (.region [⟨some 4, none, .take false (.c (.bool true))⟩] [0, 1, 5, 14])
  .ret)))),
  [(4, none)], [(false, .deep)]⟩

def tab : Nat → Option AFunc
  | 7 => some a_laws_FnExactEditCost
  | 41 => some a_laws_szEditS
  | 43 => some a_laws_toEditS
  | 42 => some a_spec_EditCost
  | 44 => some a_impl_EditCost
  | 45 => some a_laws_eqEditS
  | 71 => some a_laws_szEdit
  | 73 => some a_laws_toEdit
  | 72 => some a_spec_SizeOfValue
  | 74 => some a_impl_SizeOfValue
  | 75 => some a_laws_eqEdit
  | 11 => some a_laws_szStepS
  | 76 => some a_laws_szValue
  | 13 => some a_laws_toStepS
  | 78 => some a_laws_toValue
  | 15 => some a_laws_eqStepS
  | 81 => some a_laws_eqValue
  | 59 => some a_laws_szStep
  | 97 => some a_laws_szStringS
  | 98 => some a_laws_szValueS
  | 60 => some a_laws_toStep
  | 100 => some a_laws_toStringS
  | 101 => some a_laws_toValueS
  | 61 => some a_laws_eqStep
  | 103 => some a_laws_eqStringS
  | 104 => some a_laws_eqValueS
  | _ => none
def num : Nat → FuncId
  | 7 => 4
  | 41 => 17
  | 43 => 19
  | 42 => 18
  | 44 => 20
  | 45 => 21
  | 71 => 34
  | 73 => 36
  | 72 => 61
  | 74 => 62
  | 75 => 38
  | 11 => 12
  | 76 => 47
  | 13 => 14
  | 78 => 49
  | 15 => 16
  | 81 => 51
  | 59 => 54
  | 97 => 78
  | 98 => 92
  | 60 => 57
  | 100 => 84
  | 101 => 94
  | 61 => 60
  | 103 => 90
  | 104 => 96
  | _ => 0
theorem k7 : chkFn Try.prog num 7 a_laws_FnExactEditCost = true := by kernel_rfl
theorem k41 : chkFn Try.prog num 41 a_laws_szEditS = true := by kernel_rfl
theorem k43 : chkFn Try.prog num 43 a_laws_toEditS = true := by kernel_rfl
theorem k42 : chkFn Try.prog num 42 a_spec_EditCost = true := by kernel_rfl
theorem k44 : chkFn Try.prog num 44 a_impl_EditCost = true := by kernel_rfl
theorem k45 : chkFn Try.prog num 45 a_laws_eqEditS = true := by kernel_rfl
theorem k71 : chkFn Try.prog num 71 a_laws_szEdit = true := by kernel_rfl
theorem k73 : chkFn Try.prog num 73 a_laws_toEdit = true := by kernel_rfl
theorem k72 : chkFn Try.prog num 72 a_spec_SizeOfValue = true := by kernel_rfl
theorem k74 : chkFn Try.prog num 74 a_impl_SizeOfValue = true := by kernel_rfl
theorem k75 : chkFn Try.prog num 75 a_laws_eqEdit = true := by kernel_rfl
theorem k11 : chkFn Try.prog num 11 a_laws_szStepS = true := by kernel_rfl
theorem k76 : chkFn Try.prog num 76 a_laws_szValue = true := by kernel_rfl
theorem k13 : chkFn Try.prog num 13 a_laws_toStepS = true := by kernel_rfl
theorem k78 : chkFn Try.prog num 78 a_laws_toValue = true := by kernel_rfl
theorem k15 : chkFn Try.prog num 15 a_laws_eqStepS = true := by kernel_rfl
theorem k81 : chkFn Try.prog num 81 a_laws_eqValue = true := by kernel_rfl
theorem k59 : chkFn Try.prog num 59 a_laws_szStep = true := by kernel_rfl
theorem k97 : chkFn Try.prog num 97 a_laws_szStringS = true := by kernel_rfl
theorem k98 : chkFn Try.prog num 98 a_laws_szValueS = true := by kernel_rfl
theorem k60 : chkFn Try.prog num 60 a_laws_toStep = true := by kernel_rfl
theorem k100 : chkFn Try.prog num 100 a_laws_toStringS = true := by kernel_rfl
theorem k101 : chkFn Try.prog num 101 a_laws_toValueS = true := by kernel_rfl
theorem k61 : chkFn Try.prog num 61 a_laws_eqStep = true := by kernel_rfl
theorem k103 : chkFn Try.prog num 103 a_laws_eqStringS = true := by kernel_rfl
theorem k104 : chkFn Try.prog num 104 a_laws_eqValueS = true := by kernel_rfl
theorem tabHF : ∀ k fd, tab k = some fd → ∃ fn c, FnOk Try.prog num k fd fn c := by
  intro k fd h
  unfold tab at h
  split at h
  · injection h with h; subst h; exact chkFn_ _ _ k7
  · injection h with h; subst h; exact chkFn_ _ _ k41
  · injection h with h; subst h; exact chkFn_ _ _ k43
  · injection h with h; subst h; exact chkFn_ _ _ k42
  · injection h with h; subst h; exact chkFn_ _ _ k44
  · injection h with h; subst h; exact chkFn_ _ _ k45
  · injection h with h; subst h; exact chkFn_ _ _ k71
  · injection h with h; subst h; exact chkFn_ _ _ k73
  · injection h with h; subst h; exact chkFn_ _ _ k72
  · injection h with h; subst h; exact chkFn_ _ _ k74
  · injection h with h; subst h; exact chkFn_ _ _ k75
  · injection h with h; subst h; exact chkFn_ _ _ k11
  · injection h with h; subst h; exact chkFn_ _ _ k76
  · injection h with h; subst h; exact chkFn_ _ _ k13
  · injection h with h; subst h; exact chkFn_ _ _ k78
  · injection h with h; subst h; exact chkFn_ _ _ k15
  · injection h with h; subst h; exact chkFn_ _ _ k81
  · injection h with h; subst h; exact chkFn_ _ _ k59
  · injection h with h; subst h; exact chkFn_ _ _ k97
  · injection h with h; subst h; exact chkFn_ _ _ k98
  · injection h with h; subst h; exact chkFn_ _ _ k60
  · injection h with h; subst h; exact chkFn_ _ _ k100
  · injection h with h; subst h; exact chkFn_ _ _ k101
  · injection h with h; subst h; exact chkFn_ _ _ k61
  · injection h with h; subst h; exact chkFn_ _ _ k103
  · injection h with h; subst h; exact chkFn_ _ _ k104
  · cases h
end Go.Proofs.Ytkiliooegoldoaa
