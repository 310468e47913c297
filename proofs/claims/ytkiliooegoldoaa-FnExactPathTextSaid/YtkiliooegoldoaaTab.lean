/- The functions of the claim, as abstract code; each is checked against the program. -/
import Derived.Test.YtkiliooegoldoaaE4
import Derived.Test.YtkiliooegoldoaaChecked
set_option maxRecDepth 100000
namespace Go.Proofs.Ytkiliooegoldoaa
open Go

def a_laws_FnExactPathText : AFunc := ⟨[false], 27,
  (.pre [.kill [1, 2, 3, 4, 5, 6, 7, 8, 9, 10, 11, 12, 13, 14, 15, 16, 17, 18, 19, 20, 21, 22, 23, 24, 25, 26]] (.seq (.region [⟨some 2, none, .take false (.c (.bool false))⟩] [2])
  (.seq (.region [⟨some 3, none, .take false (.c (I 1048576))⟩] [])
  (.seq (.region [⟨some 7, none, .mv false (.t 0 [])⟩,
    ⟨some 8, none, .mv false (.t 3 [])⟩,
    ⟨some 9, none, .call 11 [(.t 7 []), (.t 8 [])]⟩,
    ⟨some 3, none, .take false (.t 9 [])⟩] [7, 8, 9])
  (.seq (.seq (.region [⟨some 10, none, .mv false (.t 3 [])⟩,
     ⟨some 11, none, .bin .lss (.t 10 []) (.c (I 0))⟩] [3, 10])
   (.cond (.t 11 [])
    (.pre [.kill [0, 11]] (.seq (.region [⟨some 2, none, .take false (.c (.bool true))⟩] [])
    .ret))
    (.pre [.kill [11]] .skip)))
  (.seq (.region [⟨some 12, none, .mv false (.t 0 [])⟩,
    ⟨some 13, none, .call 13 [(.t 12 [])]⟩,
    ⟨some 14, none, .call 39 [(.t 13 [])]⟩,
    ⟨some 4, none, .take false (.t 14 [])⟩] [12, 13, 14])
  (.seq (.region [⟨some 15, none, .mv false (.t 0 [])⟩,
    ⟨some 16, none, .call 13 [(.t 15 [])]⟩,
    ⟨some 5, none, .take false (.t 16 [])⟩] [15, 16])
  (.seq (.region [⟨some 17, none, .mv false (.t 5 [])⟩,
    ⟨some 18, none, .call 40 [(.t 17 [5])]⟩,
    ⟨some 6, none, .take false (.t 18 [])⟩] [17, 18])
  (.seq (.seq (.region [⟨some 19, none, .mv false (.t 6 [])⟩,
     ⟨some 20, none, .mv false (.t 4 [])⟩,
     ⟨some 21, none, .bin .neq (.t 19 []) (.t 20 [])⟩] [4, 6, 19, 20])
   (.cond (.t 21 [])
    (.pre [.kill [0, 5, 21]] (.seq (.region [⟨some 2, none, .take false (.c (.bool false))⟩] [])
    .ret))
    (.pre [.kill [21]] .skip)))
  (.seq (.seq (.region [⟨some 22, none, .mv false (.t 5 [])⟩,
     ⟨some 23, none, .mv false (.t 0 [])⟩,
     ⟨some 24, none, .call 13 [(.t 23 [])]⟩,
     ⟨some 25, none, .call 15 [(.t 22 [5]), (.t 24 [])]⟩,
     ⟨some 26, none, .un .not (.t 25 [])⟩] [0, 5, 22, 23, 24, 25])
   (.cond (.t 26 [])
    (.pre [.kill [26]] (.seq (.region [⟨some 2, none, .take false (.c (.bool false))⟩] [])
    .ret))
    (.pre [.kill [26]] .skip)))
  (.seq (.region [⟨some 2, none, .take false (.c (.bool true))⟩] [])
  .ret))))))))))),
  [(2, none)], [(false, .deep)]⟩

def a_laws_szStepS : AFunc := ⟨[false, false], 27,
  (.pre [.kill [2, 3, 4, 5, 6, 7, 8, 9, 10, 11, 12, 13, 14, 15, 16, 17, 18, 19, 20, 21, 22, 23, 24, 25, 26]] (.seq (.region [⟨some 4, none, .take false (.c (I 0))⟩] [4])
  (.seq (.region [⟨some 6, none, .mv false (.t 1 [])⟩,
    ⟨some 7, none, .mv false (.t 0 [])⟩,
    ⟨some 8, none, .len (.t 7 [])⟩,
    ⟨some 9, none, .bin .sub (.t 6 []) (.t 8 [])⟩,
    ⟨some 1, none, .take false (.t 9 [])⟩] [6, 7, 8, 9])
  (.seq (.seq (.region [⟨some 10, none, .mv false (.t 1 [])⟩,
     ⟨some 11, none, .bin .lss (.t 10 []) (.c (I 0))⟩] [10])
   (.cond (.t 11 [])
    (.pre [.kill [0, 1, 11]] (.seq (.region [⟨some 4, none, .take false (.c (I (-1)))⟩] [])
    .ret))
    (.pre [.kill [11]] .skip)))
  (.seq (.seq (.region [⟨some 5, none, .take false (.c (I 0))⟩] [])
   (.block 0 (.pre [.kill [4, 12, 13, 14, 15, 16, 17, 18, 19, 20, 21, 22, 23, 24, 25]] (.loop (.seq (.seq (.region [⟨some 12, none, .mv false (.t 5 [])⟩,
        ⟨some 13, none, .mv false (.t 0 [])⟩,
        ⟨some 14, none, .len (.t 13 [])⟩,
        ⟨some 15, none, .bin .lss (.t 12 []) (.t 14 [])⟩] [12, 13, 14])
      (.cond (.t 15 [])
       (.pre [.kill [15]] .skip)
       (.pre [.kill [0, 5, 15]] (.exit 0))))
     (.seq (.block 1 (.seq (.region [⟨some 18, none, .mv false (.t 0 [])⟩,
         ⟨some 19, none, .mv false (.t 5 [])⟩,
         ⟨some 20, none, .iaddr 3 (.t 18 []) (.t 19 [])⟩,
         ⟨some 21, none, .load (some 3) (.t 20 [])⟩,
         ⟨some 22, none, .mv false (.t 1 [])⟩,
         ⟨some 23, none, .call 59 [(.t 21 []), (.t 22 [])]⟩,
         ⟨some 1, none, .take false (.t 23 [])⟩] [18, 19, 20, 21, 22, 23])
       (.seq (.region [⟨some 24, none, .mv false (.t 1 [])⟩,
         ⟨some 25, none, .bin .lss (.t 24 []) (.c (I 0))⟩] [24])
       (.cond (.t 25 [])
        (.pre [.kill [0, 1, 5, 25]] (.seq (.region [⟨some 4, none, .take false (.c (I (-1)))⟩] [])
        .ret))
        (.pre [.kill [25]] .skip)))))
     (.region [⟨some 16, none, .mv false (.t 5 [])⟩,
      ⟨some 17, none, .bin .add (.t 16 []) (.c (I 1))⟩,
      ⟨some 5, none, .take false (.t 17 [])⟩] [16, 17])))))))
  (.seq (.region [⟨some 26, none, .mv false (.t 1 [])⟩,
    ⟨some 4, none, .take false (.t 26 [])⟩] [1, 26])
  .ret)))))),
  [(4, none)], [(false, .deep)]⟩

def a_laws_toStepS : AFunc := ⟨[false], 23,
  (.pre [.kill [1, 2, 3, 4, 5, 6, 7, 8, 9, 10, 11, 12, 13, 14, 15, 16, 17, 18, 19, 20, 21, 22]] (.seq (.region [⟨some 2, none, .take false (.c (Z 3))⟩] [2])
  (.seq (.region [⟨some 5, none, .mv false (.t 0 [])⟩,
    ⟨some 6, none, .len (.t 5 [])⟩,
    ⟨some 7, none, .make .deep 3 [I0, S0, I0] (.t 6 [])⟩,
    ⟨some 3, none, .take false (.t 7 [])⟩] [5, 6, 7])
  (.seq (.seq (.region [⟨some 4, none, .take false (.c (I 0))⟩] [])
   (.block 0 (.pre [.kill [8, 9, 10, 11, 12, 13, 14, 15, 16, 17, 18, 19, 20, 21]] (.loop (.seq (.seq (.region [⟨some 8, none, .mv false (.t 4 [])⟩,
        ⟨some 9, none, .mv false (.t 0 [])⟩,
        ⟨some 10, none, .len (.t 9 [])⟩,
        ⟨some 11, none, .bin .lss (.t 8 []) (.t 10 [])⟩] [8, 9, 10])
      (.cond (.t 11 [])
       (.pre [.kill [11]] .skip)
       (.pre [.kill [0, 4, 11]] (.exit 0))))
     (.seq (.block 1 (.region [⟨some 14, none, .mv false (.t 3 [])⟩,
        ⟨some 15, none, .mv false (.t 4 [])⟩,
        ⟨some 16, none, .mv false (.t 0 [])⟩,
        ⟨some 17, none, .mv false (.t 4 [])⟩,
        ⟨some 18, none, .iaddr 3 (.t 16 []) (.t 17 [])⟩,
        ⟨some 19, none, .load (some 3) (.t 18 [])⟩,
        ⟨some 20, none, .call 60 [(.t 19 [])]⟩,
        ⟨some 21, none, .iaddr 3 (.t 14 [3]) (.t 15 [])⟩,
        ⟨none, none, .store 3 (.t 21 [3]) (.t 20 [])⟩] [14, 15, 16, 17, 18, 19, 20]))
     (.region [⟨some 12, none, .mv false (.t 4 [])⟩,
      ⟨some 13, none, .bin .add (.t 12 []) (.c (I 1))⟩,
      ⟨some 4, none, .take false (.t 13 [])⟩] [12, 13])))))))
  (.seq (.region [⟨some 22, none, .mv false (.t 3 [])⟩,
    ⟨some 2, none, .take false (.t 22 [3])⟩] [3, 22])
  .ret))))),
  [(2, none)], [(false, .deep)]⟩

def a_spec_PathText : AFunc := ⟨[false], 51,
  (.pre [.kill [1, 2, 3, 4, 5, 6, 7, 8, 9, 10, 11, 12, 13, 14, 15, 16, 17, 18, 19, 20, 21, 22, 23, 24, 25, 26, 27, 28, 29, 30, 31, 32, 33, 34, 35, 36, 37, 38, 39, 40, 41, 42, 43, 44, 45, 46, 47, 48, 49, 50]] (.seq (.region [⟨some 2, none, .take false (.c (.str ⟨#[]⟩))⟩] [2])
  (.seq (.seq (.region [⟨some 5, none, .mv false (.t 0 [])⟩,
     ⟨some 6, none, .call 16 [(.t 5 [])]⟩,
     ⟨some 7, none, .un .not (.t 6 [])⟩] [5, 6])
   (.cond (.t 7 [])
    (.pre [.kill [0, 7]] (.seq (.region [⟨some 2, none, .take false (.c (.str ⟨#[]⟩))⟩] [])
    .ret))
    (.pre [.kill [7]] .skip)))
  (.seq (.region [⟨some 3, none, .take false (.c (.str ⟨#[]⟩))⟩] [])
  (.seq (.seq (.region [⟨some 4, none, .take false (.c (I 0))⟩] [])
   (.block 0 (.pre [.kill [8, 9, 10, 11, 12, 13, 14, 15, 16, 17, 18, 19, 20, 21, 22, 23, 24, 25, 26, 27, 28, 29, 30, 31, 32, 33, 34, 35, 36, 37, 38, 39, 40, 41, 42, 43, 44, 45, 46, 47, 48, 49]] (.loop (.seq (.seq (.region [⟨some 8, none, .mv false (.t 4 [])⟩,
        ⟨some 9, none, .mv false (.t 0 [])⟩,
        ⟨some 10, none, .len (.t 9 [])⟩,
        ⟨some 11, none, .bin .lss (.t 8 []) (.t 10 [])⟩] [8, 9, 10])
      (.cond (.t 11 [])
       (.pre [.kill [11]] .skip)
       (.pre [.kill [0, 4, 11]] (.exit 0))))
     (.seq (.block 1 (.seq (.region [⟨some 14, none, .mv false (.t 0 [])⟩,
         ⟨some 15, none, .mv false (.t 4 [])⟩,
         ⟨some 16, none, .iaddr 3 (.t 14 []) (.t 15 [])⟩,
         ⟨some 17, none, .faddr 0 (.t 16 [])⟩,
         ⟨some 18, none, .load none (.t 17 [])⟩] [14, 15, 16, 17])
       (.block 2 (.seq (.region [⟨some 20, none, .bin .eql (.t 18 []) (.c (I 1))⟩,
          ⟨some 19, none, .take false (.t 20 [])⟩] [20])
        (.cond (.t 19 [])
         (.pre [.kill [18, 19]] (.region [⟨some 21, none, .mv false (.t 3 [])⟩,
          ⟨some 22, none, .bin .add (.t 21 []) (.c (.str ⟨#[46]⟩))⟩,
          ⟨some 23, none, .mv false (.t 0 [])⟩,
          ⟨some 24, none, .mv false (.t 4 [])⟩,
          ⟨some 25, none, .iaddr 3 (.t 23 []) (.t 24 [])⟩,
          ⟨some 26, none, .faddr 1 (.t 25 [])⟩,
          ⟨some 27, none, .load none (.t 26 [])⟩,
          ⟨some 28, none, .bin .add (.t 22 []) (.t 27 [])⟩,
          ⟨some 3, none, .take false (.t 28 [])⟩] [21, 22, 23, 24, 25, 26, 27, 28]))
         (.pre [.kill [19]] (.seq (.region [⟨some 30, none, .bin .eql (.t 18 []) (.c (I 2))⟩,
           ⟨some 29, none, .take false (.t 30 [])⟩] [30])
         (.cond (.t 29 [])
          (.pre [.kill [18, 29]] (.region [⟨some 31, none, .mv false (.t 3 [])⟩,
           ⟨some 32, none, .bin .add (.t 31 []) (.c (.str ⟨#[63]⟩))⟩,
           ⟨some 33, none, .mv false (.t 0 [])⟩,
           ⟨some 34, none, .mv false (.t 4 [])⟩,
           ⟨some 35, none, .iaddr 3 (.t 33 []) (.t 34 [])⟩,
           ⟨some 36, none, .faddr 1 (.t 35 [])⟩,
           ⟨some 37, none, .load none (.t 36 [])⟩,
           ⟨some 38, none, .bin .add (.t 32 []) (.t 37 [])⟩,
           ⟨some 3, none, .take false (.t 38 [])⟩] [31, 32, 33, 34, 35, 36, 37, 38]))
          (.pre [.kill [29]] (.seq (.region [⟨some 40, none, .bin .eql (.t 18 []) (.c (I 3))⟩,
            ⟨some 39, none, .take false (.t 40 [])⟩] [18, 40])
          (.cond (.t 39 [])
           (.pre [.kill [39]] (.region [⟨some 41, none, .mv false (.t 3 [])⟩,
            ⟨some 42, none, .bin .add (.t 41 []) (.c (.str ⟨#[35]⟩))⟩,
            ⟨some 43, none, .mv false (.t 0 [])⟩,
            ⟨some 44, none, .mv false (.t 4 [])⟩,
            ⟨some 45, none, .iaddr 3 (.t 43 []) (.t 44 [])⟩,
            ⟨some 46, none, .faddr 2 (.t 45 [])⟩,
            ⟨some 47, none, .load none (.t 46 [])⟩,
            ⟨some 48, none, .call 69 [(.t 47 [])]⟩,
            ⟨some 49, none, .bin .add (.t 42 []) (.t 48 [])⟩,
            ⟨some 3, none, .take false (.t 49 [])⟩] [41, 42, 43, 44, 45, 46, 47, 48, 49]))
           (.pre [.kill [39]] .skip))))))))))))
     (.region [⟨some 12, none, .mv false (.t 4 [])⟩,
      ⟨some 13, none, .bin .add (.t 12 []) (.c (I 1))⟩,
      ⟨some 4, none, .take false (.t 13 [])⟩] [12, 13])))))))
  (.seq (.region [⟨some 50, none, .mv false (.t 3 [])⟩,
    ⟨some 2, none, .take false (.t 50 [])⟩] [3, 50])
  .ret)))))),
  [(2, none)], [(false, .deep)]⟩

def a_impl_PathText : AFunc := ⟨[false], 39,
  (.pre [.kill [1, 2, 3, 4, 5, 6, 7, 8, 9, 10, 11, 12, 13, 14, 15, 16, 17, 18, 19, 20, 21, 22, 23, 24, 25, 26, 27, 28, 29, 30, 31, 32, 33, 34, 35, 36, 37, 38]] (.seq (.region [⟨some 2, none, .take false (.c (.str ⟨#[]⟩))⟩] [2])
  (.seq (.seq (.region [⟨some 6, none, .mv false (.t 0 [])⟩,
     ⟨some 7, none, .call 17 [(.t 6 [])]⟩,
     ⟨some 8, none, .un .not (.t 7 [])⟩] [6, 7])
   (.cond (.t 8 [])
    (.pre [.kill [0, 8]] (.seq (.region [⟨some 2, none, .take false (.c (.str ⟨#[]⟩))⟩] [])
    .ret))
    (.pre [.kill [8]] .skip)))
  (.seq (.region [⟨some 3, none, .take false (.c (.str ⟨#[]⟩))⟩] [])
  (.seq (.seq (.region [⟨some 9, none, .mv false (.t 0 [])⟩,
     ⟨some 10, none, .len (.t 9 [])⟩,
     ⟨some 11, none, .take false (.c (I 0))⟩] [0])
   (.block 0 (.pre [.kill [5, 12, 13, 14, 15, 16, 17, 18, 19, 20, 21, 22, 23, 24, 25, 26, 27, 28, 29, 30, 31, 32, 33, 34, 35, 36, 37]] (.loop (.seq (.region [⟨some 12, none, .bin .lss (.t 11 []) (.t 10 [])⟩] [])
     (.seq (.cond (.t 12 [])
       (.pre [.kill [12]] .skip)
       (.pre [.kill [9, 10, 11, 12]] (.exit 0)))
     (.seq (.block 1 (.seq (.region [⟨some 13, none, .iaddr 3 (.t 9 []) (.t 11 [])⟩,
         ⟨some 14, none, .load (some 3) (.t 13 [])⟩,
         ⟨some 5, none, .alloc false [I0, S0, I0] [.deep, .deep, .deep]⟩,
         ⟨none, none, .store 3 (.t 5 [5]) (.t 14 [])⟩] [13, 14])
       (.seq (.region [⟨some 15, none, .faddr 0 (.t 5 [])⟩,
         ⟨some 16, none, .load none (.t 15 [5])⟩] [15])
       (.block 2 (.seq (.region [⟨some 24, none, .bin .eql (.t 16 []) (.c (I 1))⟩,
          ⟨some 23, none, .take false (.t 24 [])⟩] [24])
        (.cond (.t 23 [])
         (.pre [.kill [16, 23]] (.region [⟨some 25, none, .mv false (.t 3 [])⟩,
          ⟨some 26, none, .faddr 1 (.t 5 [])⟩,
          ⟨some 27, none, .load none (.t 26 [5])⟩,
          ⟨some 28, none, .bin .add (.c (.str ⟨#[46]⟩)) (.t 27 [])⟩,
          ⟨some 29, none, .bin .add (.t 25 []) (.t 28 [])⟩,
          ⟨some 3, none, .take false (.t 29 [])⟩] [5, 25, 27, 28, 29]))
         (.pre [.kill [23]] (.seq (.region [⟨some 31, none, .bin .eql (.t 16 []) (.c (I 2))⟩,
           ⟨some 30, none, .take false (.t 31 [])⟩] [16, 31])
         (.cond (.t 30 [])
          (.pre [.kill [30]] (.region [⟨some 32, none, .mv false (.t 3 [])⟩,
           ⟨some 33, none, .faddr 1 (.t 5 [])⟩,
           ⟨some 34, none, .load none (.t 33 [5])⟩,
           ⟨some 35, none, .bin .add (.c (.str ⟨#[63]⟩)) (.t 34 [])⟩,
           ⟨some 36, none, .bin .add (.t 32 []) (.t 35 [])⟩,
           ⟨some 3, none, .take false (.t 36 [])⟩] [5, 32, 34, 35, 36]))
          (.pre [.kill [30]] (.region [⟨some 17, none, .mv false (.t 3 [])⟩,
           ⟨some 18, none, .faddr 2 (.t 5 [])⟩,
           ⟨some 19, none, .load none (.t 18 [5])⟩,
           ⟨some 20, none, .call 70 [(.t 19 [])]⟩,
           ⟨some 21, none, .bin .add (.c (.str ⟨#[35]⟩)) (.t 20 [])⟩,
           ⟨some 22, none, .bin .add (.t 17 []) (.t 21 [])⟩,
           ⟨some 3, none, .take false (.t 22 [])⟩] [5, 17, 19, 20, 21, 22])))))))))))
     (.region [⟨some 37, none, .bin .add (.t 11 []) (.c (I 1))⟩,
      ⟨some 11, none, .mv false (.t 37 [])⟩] [37]))))))))
  (.seq (.region [⟨some 38, none, .mv false (.t 3 [])⟩,
    ⟨some 2, none, .take false (.t 38 [])⟩] [3, 38])
  .ret)))))),
  [(2, none)], [(false, .deep)]⟩

def a_laws_eqStepS : AFunc := ⟨[false, false], 27,
  (.pre [.kill [2, 3, 4, 5, 6, 7, 8, 9, 10, 11, 12, 13, 14, 15, 16, 17, 18, 19, 20, 21, 22, 23, 24, 25, 26]] (.seq (.region [⟨some 4, none, .take false (.c (.bool false))⟩] [4])
  (.seq (.seq (.region [⟨some 6, none, .mv false (.t 0 [])⟩,
     ⟨some 7, none, .len (.t 6 [])⟩,
     ⟨some 8, none, .mv false (.t 1 [])⟩,
     ⟨some 9, none, .len (.t 8 [])⟩,
     ⟨some 10, none, .bin .neq (.t 7 []) (.t 9 [])⟩] [6, 7, 8, 9])
   (.cond (.t 10 [])
    (.pre [.kill [0, 1, 10]] (.seq (.region [⟨some 4, none, .take false (.c (.bool false))⟩] [])
    .ret))
    (.pre [.kill [10]] .skip)))
  (.seq (.seq (.region [⟨some 5, none, .take false (.c (I 0))⟩] [])
   (.block 0 (.pre [.kill [4, 11, 12, 13, 14, 15, 16, 17, 18, 19, 20, 21, 22, 23, 24, 25, 26]] (.loop (.seq (.seq (.region [⟨some 11, none, .mv false (.t 5 [])⟩,
        ⟨some 12, none, .mv false (.t 0 [])⟩,
        ⟨some 13, none, .len (.t 12 [])⟩,
        ⟨some 14, none, .bin .lss (.t 11 []) (.t 13 [])⟩] [11, 12, 13])
      (.cond (.t 14 [])
       (.pre [.kill [14]] .skip)
       (.pre [.kill [0, 1, 5, 14]] (.exit 0))))
     (.seq (.block 1 (.seq (.region [⟨some 17, none, .mv false (.t 0 [])⟩,
         ⟨some 18, none, .mv false (.t 5 [])⟩,
         ⟨some 19, none, .iaddr 3 (.t 17 []) (.t 18 [])⟩,
         ⟨some 20, none, .load (some 3) (.t 19 [])⟩,
         ⟨some 21, none, .mv false (.t 1 [])⟩,
         ⟨some 22, none, .mv false (.t 5 [])⟩,
         ⟨some 23, none, .iaddr 3 (.t 21 []) (.t 22 [])⟩,
         ⟨some 24, none, .load (some 3) (.t 23 [])⟩,
         ⟨some 25, none, .call 61 [(.t 20 []), (.t 24 [])]⟩,
         ⟨some 26, none, .un .not (.t 25 [])⟩] [17, 18, 19, 20, 21, 22, 23, 24, 25])
       (.cond (.t 26 [])
        (.pre [.kill [0, 1, 5, 26]] (.seq (.region [⟨some 4, none, .take false (.c (.bool false))⟩] [])
        .ret))
        (.pre [.kill [26]] .skip))))
     (.region [⟨some 15, none, .mv false (.t 5 [])⟩,
      ⟨some 16, none, .bin .add (.t 15 []) (.c (I 1))⟩,
      ⟨some 5, none, .take false (.t 16 [])⟩] [15, 16])))))))
  (.seq (.region [⟨some 4, none, .take false (.c (.bool true))⟩] [])
  .ret))))),
  [(4, none)], [(false, .deep)]⟩

def a_laws_szStep : AFunc := ⟨[true, false], 13,
  (.pre [.kill [2, 3, 4, 5, 6, 7, 8, 9, 10, 11, 12]] (.seq (.region [⟨some 2, none, .box false (.t 0 [])⟩,
    ⟨some 4, none, .take false (.c (I 0))⟩] [0, 4])
  (.seq (.region [⟨some 5, none, .mv false (.t 1 [])⟩,
    ⟨some 6, none, .faddr 1 (.t 2 [])⟩,
    ⟨some 7, none, .load none (.t 6 [2])⟩,
    ⟨some 8, none, .lenS (.t 7 [])⟩,
    ⟨some 9, none, .bin .sub (.t 5 []) (.t 8 [])⟩,
    ⟨some 1, none, .take false (.t 9 [])⟩] [2, 5, 7, 8, 9])
  (.seq (.seq (.region [⟨some 10, none, .mv false (.t 1 [])⟩,
     ⟨some 11, none, .bin .lss (.t 10 []) (.c (I 0))⟩] [10])
   (.cond (.t 11 [])
    (.pre [.kill [1, 11]] (.seq (.region [⟨some 4, none, .take false (.c (I (-1)))⟩] [])
    .ret))
    (.pre [.kill [11]] .skip)))
  (.seq (.region [⟨some 12, none, .mv false (.t 1 [])⟩,
    ⟨some 4, none, .take false (.t 12 [])⟩] [1, 12])
  .ret))))),
  [(4, none)], [(false, .deep)]⟩

def a_laws_toStep : AFunc := ⟨[true], 14,
  (.pre [.kill [1, 2, 3, 4, 5, 6, 7, 8, 9, 10, 11, 12, 13]] (.seq (.region [⟨some 1, none, .box false (.t 0 [])⟩,
    ⟨some 2, none, .alloc false [I0, S0, I0] [.deep, .deep, .deep]⟩] [0])
  (.seq (.region [⟨some 3, none, .alloc false [I0, S0, I0] [.deep, .deep, .deep]⟩] [])
  (.seq (.region [⟨some 4, none, .faddr 0 (.t 1 [])⟩,
    ⟨some 5, none, .load none (.t 4 [1])⟩,
    ⟨some 6, none, .faddr 0 (.t 3 [])⟩,
    ⟨none, none, .store 1 (.t 6 [3]) (.t 5 [])⟩] [4, 5, 6])
  (.seq (.region [⟨some 7, none, .faddr 1 (.t 1 [])⟩,
    ⟨some 8, none, .load none (.t 7 [1])⟩,
    ⟨some 9, none, .faddr 1 (.t 3 [])⟩,
    ⟨none, none, .store 1 (.t 9 [3]) (.t 8 [])⟩] [7, 8, 9])
  (.seq (.region [⟨some 10, none, .faddr 2 (.t 1 [])⟩,
    ⟨some 11, none, .load none (.t 10 [1])⟩,
    ⟨some 12, none, .faddr 2 (.t 3 [])⟩,
    ⟨none, none, .store 1 (.t 12 [3]) (.t 11 [])⟩] [1, 11, 12])
  (.seq (.region [⟨some 13, none, .load (some 3) (.t 3 [3])⟩,
    ⟨none, none, .store 3 (.t 2 [2]) (.t 13 [])⟩] [3, 13])
  .ret))))))),
  [(2, some 3)], [(true, .deep)]⟩

def a_spec_IsPath : AFunc := ⟨[false], 43,
  (.pre [.kill [1, 2, 3, 4, 5, 6, 7, 8, 9, 10, 11, 12, 13, 14, 15, 16, 17, 18, 19, 20, 21, 22, 23, 24, 25, 26, 27, 28, 29, 30, 31, 32, 33, 34, 35, 36, 37, 38, 39, 40, 41, 42]] (.seq (.region [⟨some 2, none, .take false (.c (.bool false))⟩] [2])
  (.seq (.seq (.region [⟨some 3, none, .take false (.c (I 0))⟩] [])
   (.block 0 (.pre [.kill [2, 4, 5, 6, 7, 8, 9, 10, 11, 12, 13, 14, 15, 16, 17, 18, 19, 20, 21, 22, 23, 24, 25, 26, 27, 28, 29, 30, 31, 32, 33, 34, 35, 36, 37, 38, 39]] (.loop (.seq (.seq (.region [⟨some 5, none, .mv false (.t 3 [])⟩,
        ⟨some 6, none, .mv false (.t 0 [])⟩,
        ⟨some 7, none, .len (.t 6 [])⟩,
        ⟨some 8, none, .bin .lss (.t 5 []) (.t 7 [])⟩] [5, 6, 7])
      (.cond (.t 8 [])
       (.pre [.kill [8]] .skip)
       (.pre [.kill [3, 8]] (.exit 0))))
     (.seq (.block 1 (.seq (.region [⟨some 11, none, .mv false (.t 0 [])⟩,
         ⟨some 12, none, .mv false (.t 3 [])⟩,
         ⟨some 13, none, .iaddr 3 (.t 11 []) (.t 12 [])⟩,
         ⟨some 14, none, .load (some 3) (.t 13 [])⟩,
         ⟨some 4, none, .alloc false [I0, S0, I0] [.deep, .deep, .deep]⟩,
         ⟨none, none, .store 3 (.t 4 [4]) (.t 14 [])⟩] [11, 12, 13, 14])
       (.seq (.region [⟨some 15, none, .faddr 0 (.t 4 [])⟩,
         ⟨some 16, none, .load none (.t 15 [4])⟩] [15])
       (.block 2 (.seq (.seq (.region [⟨some 18, none, .bin .eql (.t 16 []) (.c (I 1))⟩,
           ⟨some 17, none, .take false (.t 18 [])⟩] [18])
         (.cond (.t 17 [])
          .skip
          (.pre [.kill [17]] (.region [⟨some 19, none, .bin .eql (.t 16 []) (.c (I 2))⟩,
           ⟨some 17, none, .take false (.t 19 [])⟩] [19]))))
        (.cond (.t 17 [])
         (.pre [.kill [16, 17]] (.seq (.region [⟨some 20, none, .faddr 1 (.t 4 [])⟩,
           ⟨some 21, none, .load none (.t 20 [4])⟩,
           ⟨some 22, none, .call 62 [(.t 21 [])]⟩,
           ⟨some 23, none, .un .not (.t 22 [])⟩,
           ⟨some 24, none, .mv false (.t 23 [])⟩,
           ⟨some 25, some (24, false), .faddr 2 (.t 4 [])⟩,
           ⟨some 26, some (24, false), .load none (.t 25 [4])⟩,
           ⟨some 27, some (24, false), .bin .neq (.t 26 []) (.c (I 0))⟩,
           ⟨some 28, none, .pick (.t 24 []) (.c (.bool true)) (.t 27 [])⟩] [4, 21, 22, 23, 24, 25, 26, 27])
         (.cond (.t 28 [])
          (.pre [.kill [0, 3, 28]] (.seq (.region [⟨some 2, none, .take false (.c (.bool false))⟩] [])
          .ret))
          (.pre [.kill [28]] .skip))))
         (.pre [.kill [17]] (.seq (.region [⟨some 30, none, .bin .eql (.t 16 []) (.c (I 3))⟩,
           ⟨some 29, none, .take false (.t 30 [])⟩] [16, 30])
         (.cond (.t 29 [])
          (.pre [.kill [29]] (.seq (.region [⟨some 31, none, .faddr 1 (.t 4 [])⟩,
            ⟨some 32, none, .load none (.t 31 [4])⟩,
            ⟨some 33, none, .bin .neq (.t 32 []) (.c (.str ⟨#[]⟩))⟩,
            ⟨some 34, none, .mv false (.t 33 [])⟩,
            ⟨some 35, some (34, false), .faddr 2 (.t 4 [])⟩,
            ⟨some 36, some (34, false), .load none (.t 35 [4])⟩,
            ⟨some 37, some (34, false), .call 63 [(.t 36 []), (.c (I 0)), (.c (I 1000))]⟩,
            ⟨some 38, some (34, false), .un .not (.t 37 [])⟩,
            ⟨some 39, none, .pick (.t 34 []) (.c (.bool true)) (.t 38 [])⟩] [4, 32, 33, 34, 35, 36, 37, 38])
          (.cond (.t 39 [])
           (.pre [.kill [0, 3, 39]] (.seq (.region [⟨some 2, none, .take false (.c (.bool false))⟩] [])
           .ret))
           (.pre [.kill [39]] .skip))))
          (.pre [.kill [0, 3, 4, 29]] (.seq (.region [⟨some 2, none, .take false (.c (.bool false))⟩] [])
          .ret)))))))))))
     (.region [⟨some 9, none, .mv false (.t 3 [])⟩,
      ⟨some 10, none, .bin .add (.t 9 []) (.c (I 1))⟩,
      ⟨some 3, none, .take false (.t 10 [])⟩] [9, 10])))))))
  (.seq (.region [⟨some 40, none, .mv false (.t 0 [])⟩,
    ⟨some 41, none, .len (.t 40 [])⟩,
    ⟨some 42, none, .bin .leq (.t 41 []) (.c (I 12))⟩,
    ⟨some 2, none, .take false (.t 42 [])⟩] [0, 40, 41, 42])
  .ret)))),
  [(2, none)], [(false, .deep)]⟩

def a_spec_FormatInt : AFunc := ⟨[false], 31,
  (.pre [.kill [1, 2, 3, 4, 5, 6, 7, 8, 9, 10, 11, 12, 13, 14, 15, 16, 17, 18, 19, 20, 21, 22, 23, 24, 25, 26, 27, 28, 29, 30]] (.seq (.region [⟨some 2, none, .take false (.c (.str ⟨#[]⟩))⟩] [2])
  (.seq (.seq (.region [⟨some 6, none, .mv false (.t 0 [])⟩,
     ⟨some 7, none, .bin .eql (.t 6 []) (.c (I 0))⟩] [6])
   (.cond (.t 7 [])
    (.pre [.kill [0, 7]] (.seq (.region [⟨some 2, none, .take false (.c (.str ⟨#[48]⟩))⟩] [])
    .ret))
    (.pre [.kill [7]] .skip)))
  (.seq (.region [⟨some 8, none, .mv false (.t 0 [])⟩,
    ⟨some 9, none, .bin .lss (.t 8 []) (.c (I 0))⟩,
    ⟨some 3, none, .take false (.t 9 [])⟩] [8, 9])
  (.seq (.region [⟨some 4, none, .take false (.c (.str ⟨#[]⟩))⟩] [])
  (.seq (.block 0 (.pre [.kill [5, 10, 11, 12, 13, 14, 15, 16, 17, 18, 19, 20, 21, 22, 23, 24, 25, 26]] (.loop (.seq (.seq (.region [⟨some 10, none, .mv false (.t 0 [])⟩,
        ⟨some 11, none, .bin .neq (.t 10 []) (.c (I 0))⟩] [10])
      (.cond (.t 11 [])
       (.pre [.kill [11]] .skip)
       (.pre [.kill [0, 11]] (.exit 0))))
     (.block 1 (.seq (.region [⟨some 12, none, .mv false (.t 0 [])⟩,
        ⟨some 13, none, .bin .rem (.t 12 []) (.c (I 10))⟩,
        ⟨some 5, none, .take false (.t 13 [])⟩] [12, 13])
      (.seq (.seq (.region [⟨some 14, none, .mv false (.t 5 [])⟩,
         ⟨some 15, none, .bin .lss (.t 14 []) (.c (I 0))⟩] [14])
       (.cond (.t 15 [])
        (.pre [.kill [15]] (.region [⟨some 16, none, .mv false (.t 5 [])⟩,
         ⟨some 17, none, .bin .sub (.c (I 0)) (.t 16 [])⟩,
         ⟨some 5, none, .take false (.t 17 [])⟩] [16, 17]))
        (.pre [.kill [15]] .skip)))
      (.seq (.region [⟨some 18, none, .mv false (.t 5 [])⟩,
        ⟨some 19, none, .bin .add (.c (I 48)) (.t 18 [])⟩,
        ⟨some 20, none, .convInt .u8 (.t 19 [])⟩,
        ⟨some 21, none, .mkSl .deep 1 [(.int .u8 0)] 1 [(0, (.t 20 []))]⟩,
        ⟨some 22, none, .bytesStr (.t 21 [])⟩,
        ⟨some 23, none, .mv false (.t 4 [])⟩,
        ⟨some 24, none, .bin .add (.t 22 []) (.t 23 [])⟩,
        ⟨some 4, none, .take false (.t 24 [])⟩] [5, 18, 19, 20, 21, 22, 23, 24])
      (.region [⟨some 25, none, .mv false (.t 0 [])⟩,
       ⟨some 26, none, .bin .quo (.t 25 []) (.c (I 10))⟩,
       ⟨some 0, none, .take false (.t 26 [])⟩] [25, 26])))))))))
  (.seq (.seq (.region [⟨some 27, none, .mv false (.t 3 [])⟩] [3])
   (.cond (.t 27 [])
    (.pre [.kill [27]] (.seq (.region [⟨some 28, none, .mv false (.t 4 [])⟩,
      ⟨some 29, none, .bin .add (.c (.str ⟨#[45]⟩)) (.t 28 [])⟩,
      ⟨some 2, none, .take false (.t 29 [])⟩] [4, 28, 29])
    .ret))
    (.pre [.kill [27]] .skip)))
  (.seq (.region [⟨some 30, none, .mv false (.t 4 [])⟩,
    ⟨some 2, none, .take false (.t 30 [])⟩] [4, 30])
  .ret)))))))),
  [(2, none)], [(false, .deep)]⟩

def a_impl_IsPath : AFunc := ⟨[false], 44,
  (.pre [.kill [1, 2, 3, 4, 5, 6, 7, 8, 9, 10, 11, 12, 13, 14, 15, 16, 17, 18, 19, 20, 21, 22, 23, 24, 25, 26, 27, 28, 29, 30, 31, 32, 33, 34, 35, 36, 37, 38, 39, 40, 41, 42, 43]] (.seq (.region [⟨some 2, none, .take false (.c (.bool false))⟩] [2])
  (.seq (.seq (.region [⟨some 5, none, .mv false (.t 0 [])⟩,
     ⟨some 6, none, .len (.t 5 [])⟩,
     ⟨some 7, none, .bin .gtr (.t 6 []) (.c (I 12))⟩] [5, 6])
   (.cond (.t 7 [])
    (.pre [.kill [0, 7]] (.seq (.region [⟨some 2, none, .take false (.c (.bool false))⟩] [])
    .ret))
    (.pre [.kill [7]] .skip)))
  (.seq (.seq (.region [⟨some 8, none, .mv false (.t 0 [])⟩,
     ⟨some 9, none, .len (.t 8 [])⟩,
     ⟨some 10, none, .take false (.c (I 0))⟩] [0])
   (.block 0 (.pre [.kill [2, 4, 11, 12, 13, 14, 15, 16, 17, 18, 19, 20, 21, 22, 23, 24, 25, 26, 27, 28, 29, 30, 31, 32, 33, 34, 35, 36, 37, 38, 39, 40, 41, 42, 43]] (.loop (.seq (.region [⟨some 11, none, .bin .lss (.t 10 []) (.t 9 [])⟩] [])
     (.seq (.cond (.t 11 [])
       (.pre [.kill [11]] .skip)
       (.pre [.kill [8, 9, 10, 11]] (.exit 0)))
     (.seq (.block 1 (.seq (.region [⟨some 12, none, .iaddr 3 (.t 8 []) (.t 10 [])⟩,
         ⟨some 13, none, .load (some 3) (.t 12 [])⟩,
         ⟨some 4, none, .alloc false [I0, S0, I0] [.deep, .deep, .deep]⟩,
         ⟨none, none, .store 3 (.t 4 [4]) (.t 13 [])⟩] [12, 13])
       (.seq (.region [⟨some 14, none, .faddr 0 (.t 4 [])⟩,
         ⟨some 15, none, .load none (.t 14 [4])⟩] [14])
       (.block 2 (.seq (.seq (.region [⟨some 17, none, .bin .eql (.t 15 []) (.c (I 1))⟩,
           ⟨some 16, none, .take false (.t 17 [])⟩] [17])
         (.cond (.t 16 [])
          .skip
          (.pre [.kill [16]] (.region [⟨some 18, none, .bin .eql (.t 15 []) (.c (I 2))⟩,
           ⟨some 16, none, .take false (.t 18 [])⟩] [18]))))
        (.cond (.t 16 [])
         (.pre [.kill [15, 16]] (.seq (.region [⟨some 19, none, .faddr 1 (.t 4 [])⟩,
           ⟨some 20, none, .load none (.t 19 [4])⟩,
           ⟨some 21, none, .call 64 [(.t 20 [])]⟩,
           ⟨some 22, none, .un .not (.t 21 [])⟩,
           ⟨some 23, none, .mv false (.t 22 [])⟩,
           ⟨some 24, some (23, false), .faddr 2 (.t 4 [])⟩,
           ⟨some 25, some (23, false), .load none (.t 24 [4])⟩,
           ⟨some 26, some (23, false), .bin .neq (.t 25 []) (.c (I 0))⟩,
           ⟨some 27, none, .pick (.t 23 []) (.c (.bool true)) (.t 26 [])⟩] [4, 20, 21, 22, 23, 24, 25, 26])
         (.cond (.t 27 [])
          (.pre [.kill [8, 9, 10, 27]] (.seq (.region [⟨some 2, none, .take false (.c (.bool false))⟩] [])
          .ret))
          (.pre [.kill [27]] .skip))))
         (.pre [.kill [16]] (.seq (.region [⟨some 29, none, .bin .eql (.t 15 []) (.c (I 3))⟩,
           ⟨some 28, none, .take false (.t 29 [])⟩] [15, 29])
         (.cond (.t 28 [])
          (.pre [.kill [28]] (.seq (.region [⟨some 30, none, .faddr 1 (.t 4 [])⟩,
            ⟨some 31, none, .load none (.t 30 [4])⟩,
            ⟨some 32, none, .bin .neq (.t 31 []) (.c (.str ⟨#[]⟩))⟩,
            ⟨some 33, none, .mv false (.t 32 [])⟩,
            ⟨some 34, some (33, false), .faddr 2 (.t 4 [])⟩,
            ⟨some 35, some (33, false), .load none (.t 34 [4])⟩,
            ⟨some 36, some (33, false), .bin .lss (.t 35 []) (.c (I 0))⟩,
            ⟨some 37, none, .pick (.t 33 []) (.c (.bool true)) (.t 36 [])⟩,
            ⟨some 38, none, .mv false (.t 37 [])⟩,
            ⟨some 39, some (38, false), .faddr 2 (.t 4 [])⟩,
            ⟨some 40, some (38, false), .load none (.t 39 [4])⟩,
            ⟨some 41, some (38, false), .bin .gtr (.t 40 []) (.c (I 1000))⟩,
            ⟨some 42, none, .pick (.t 38 []) (.c (.bool true)) (.t 41 [])⟩] [4, 31, 32, 33, 34, 35, 36, 37, 38, 39, 40, 41])
          (.cond (.t 42 [])
           (.pre [.kill [8, 9, 10, 42]] (.seq (.region [⟨some 2, none, .take false (.c (.bool false))⟩] [])
           .ret))
           (.pre [.kill [42]] .skip))))
          (.pre [.kill [4, 8, 9, 10, 28]] (.seq (.region [⟨some 2, none, .take false (.c (.bool false))⟩] [])
          .ret)))))))))))
     (.region [⟨some 43, none, .bin .add (.t 10 []) (.c (I 1))⟩,
      ⟨some 10, none, .mv false (.t 43 [])⟩] [43]))))))))
  (.seq (.region [⟨some 2, none, .take false (.c (.bool true))⟩] [])
  .ret))))),
  [(2, none)], [(false, .deep)]⟩

def a_impl_FormatInt : AFunc := ⟨[false], 13,
  (.pre [.kill [1, 2, 3, 4, 5, 6, 7, 8, 9, 10, 11, 12]] (.seq (.region [⟨some 2, none, .take false (.c (.str ⟨#[]⟩))⟩] [2])
  (.seq (.seq (.region [⟨some 3, none, .mv false (.t 0 [])⟩,
     ⟨some 4, none, .bin .lss (.t 3 []) (.c (I 0))⟩] [3])
   (.cond (.t 4 [])
    (.pre [.kill [4]] (.seq (.region [⟨some 5, none, .mv false (.t 0 [])⟩,
      ⟨some 6, none, .convInt .u64 (.t 5 [])⟩,
      ⟨some 7, none, .un .neg (.t 6 [])⟩,
      ⟨some 8, none, .call 96 [(.t 7 [])]⟩,
      ⟨some 9, none, .bin .add (.c (.str ⟨#[45]⟩)) (.t 8 [])⟩,
      ⟨some 2, none, .take false (.t 9 [])⟩] [0, 5, 6, 7, 8, 9])
    .ret))
    (.pre [.kill [4]] .skip)))
  (.seq (.region [⟨some 10, none, .mv false (.t 0 [])⟩,
    ⟨some 11, none, .convInt .u64 (.t 10 [])⟩,
    ⟨some 12, none, .call 96 [(.t 11 [])]⟩,
    ⟨some 2, none, .take false (.t 12 [])⟩] [0, 10, 11, 12])
  .ret)))),
  [(2, none)], [(false, .deep)]⟩

def a_laws_eqStep : AFunc := ⟨[true, true], 20,
  (.pre [.kill [2, 3, 4, 5, 6, 7, 8, 9, 10, 11, 12, 13, 14, 15, 16, 17, 18, 19]] (.seq (.region [⟨some 2, none, .box false (.t 0 [])⟩,
    ⟨some 3, none, .box false (.t 1 [])⟩,
    ⟨some 4, none, .take false (.c (.bool false))⟩] [0, 1, 4])
  (.seq (.seq (.region [⟨some 5, none, .faddr 0 (.t 2 [])⟩,
     ⟨some 6, none, .load none (.t 5 [2])⟩,
     ⟨some 7, none, .faddr 0 (.t 3 [])⟩,
     ⟨some 8, none, .load none (.t 7 [3])⟩,
     ⟨some 9, none, .bin .neq (.t 6 []) (.t 8 [])⟩] [5, 6, 7, 8])
   (.cond (.t 9 [])
    (.pre [.kill [2, 3, 9]] (.seq (.region [⟨some 4, none, .take false (.c (.bool false))⟩] [])
    .ret))
    (.pre [.kill [9]] .skip)))
  (.seq (.seq (.region [⟨some 10, none, .faddr 1 (.t 2 [])⟩,
     ⟨some 11, none, .load none (.t 10 [2])⟩,
     ⟨some 12, none, .faddr 1 (.t 3 [])⟩,
     ⟨some 13, none, .load none (.t 12 [3])⟩,
     ⟨some 14, none, .bin .neq (.t 11 []) (.t 13 [])⟩] [10, 11, 12, 13])
   (.cond (.t 14 [])
    (.pre [.kill [2, 3, 14]] (.seq (.region [⟨some 4, none, .take false (.c (.bool false))⟩] [])
    .ret))
    (.pre [.kill [14]] .skip)))
  (.seq (.seq (.region [⟨some 15, none, .faddr 2 (.t 2 [])⟩,
     ⟨some 16, none, .load none (.t 15 [2])⟩,
     ⟨some 17, none, .faddr 2 (.t 3 [])⟩,
     ⟨some 18, none, .load none (.t 17 [3])⟩,
     ⟨some 19, none, .bin .neq (.t 16 []) (.t 18 [])⟩] [2, 3, 16, 18])
   (.cond (.t 19 [])
    (.pre [.kill [19]] (.seq (.region [⟨some 4, none, .take false (.c (.bool false))⟩] [])
    .ret))
    (.pre [.kill [19]] .skip)))
  (.seq (.region [⟨some 4, none, .take false (.c (.bool true))⟩] [])
  .ret)))))),
  [(4, none)], [(false, .deep)]⟩

def a_spec_IsName : AFunc := ⟨[false], 42,
  (.pre [.kill [1, 2, 3, 4, 5, 6, 7, 8, 9, 10, 11, 12, 13, 14, 15, 16, 17, 18, 19, 20, 21, 22, 23, 24, 25, 26, 27, 28, 29, 30, 31, 32, 33, 34, 35, 36, 37, 38, 39, 40, 41]] (.seq (.region [⟨some 2, none, .take false (.c (.bool false))⟩] [2])
  (.seq (.seq (.region [⟨some 3, none, .take false (.c (I 0))⟩] [])
   (.block 0 (.pre [.kill [2, 4, 5, 6, 7, 8, 9, 10, 11, 12, 13, 14, 15, 16, 17, 18, 19, 20, 21, 22, 23, 24, 25, 26, 27, 28, 29, 30, 31, 32, 33, 34, 35, 36, 37, 38]] (.loop (.seq (.seq (.region [⟨some 5, none, .mv false (.t 3 [])⟩,
        ⟨some 6, none, .mv false (.t 0 [])⟩,
        ⟨some 7, none, .lenS (.t 6 [])⟩,
        ⟨some 8, none, .bin .lss (.t 5 []) (.t 7 [])⟩] [5, 6, 7])
      (.cond (.t 8 [])
       (.pre [.kill [8]] .skip)
       (.pre [.kill [3, 8]] (.exit 0))))
     (.seq (.block 1 (.seq (.region [⟨some 11, none, .mv false (.t 0 [])⟩,
         ⟨some 12, none, .mv false (.t 3 [])⟩,
         ⟨some 13, none, .index (.t 11 []) (.t 12 [])⟩,
         ⟨some 14, none, .bin .geq (.t 13 []) (.c (.int .u8 97))⟩,
         ⟨some 15, none, .mv false (.t 14 [])⟩,
         ⟨some 16, some (15, true), .mv false (.t 0 [])⟩,
         ⟨some 17, some (15, true), .mv false (.t 3 [])⟩,
         ⟨some 18, some (15, true), .index (.t 16 []) (.t 17 [])⟩,
         ⟨some 19, some (15, true), .bin .leq (.t 18 []) (.c (.int .u8 122))⟩,
         ⟨some 20, none, .pick (.t 15 []) (.t 19 []) (.c (.bool false))⟩,
         ⟨some 4, none, .take false (.t 20 [])⟩] [11, 12, 13, 14, 15, 16, 17, 18, 19, 20])
       (.seq (.region [⟨some 21, none, .mv false (.t 4 [])⟩,
         ⟨some 22, none, .un .not (.t 21 [])⟩,
         ⟨some 23, none, .mv false (.t 22 [])⟩,
         ⟨some 24, some (23, true), .mv false (.t 3 [])⟩,
         ⟨some 25, some (23, true), .bin .eql (.t 24 []) (.c (I 0))⟩,
         ⟨some 26, some (23, true), .mv false (.t 25 [])⟩,
         ⟨some 27, some (26, false), .mv false (.t 0 [])⟩,
         ⟨some 28, some (26, false), .mv false (.t 3 [])⟩,
         ⟨some 29, some (26, false), .index (.t 27 []) (.t 28 [])⟩,
         ⟨some 30, some (26, false), .bin .lss (.t 29 []) (.c (.int .u8 48))⟩,
         ⟨some 31, some (23, true), .pick (.t 26 []) (.c (.bool true)) (.t 30 [])⟩,
         ⟨some 32, some (23, true), .mv false (.t 31 [])⟩,
         ⟨some 33, some (32, false), .mv false (.t 0 [])⟩,
         ⟨some 34, some (32, false), .mv false (.t 3 [])⟩,
         ⟨some 35, some (32, false), .index (.t 33 []) (.t 34 [])⟩,
         ⟨some 36, some (32, false), .bin .gtr (.t 35 []) (.c (.int .u8 57))⟩,
         ⟨some 37, some (23, true), .pick (.t 32 []) (.c (.bool true)) (.t 36 [])⟩,
         ⟨some 38, none, .pick (.t 23 []) (.t 37 []) (.c (.bool false))⟩] [4, 21, 22, 23, 24, 25, 26, 27, 28, 29, 30, 31, 32, 33, 34, 35, 36, 37])
       (.cond (.t 38 [])
        (.pre [.kill [0, 3, 38]] (.seq (.region [⟨some 2, none, .take false (.c (.bool false))⟩] [])
        .ret))
        (.pre [.kill [38]] .skip)))))
     (.region [⟨some 9, none, .mv false (.t 3 [])⟩,
      ⟨some 10, none, .bin .add (.t 9 []) (.c (I 1))⟩,
      ⟨some 3, none, .take false (.t 10 [])⟩] [9, 10])))))))
  (.seq (.region [⟨some 39, none, .mv false (.t 0 [])⟩,
    ⟨some 40, none, .lenS (.t 39 [])⟩,
    ⟨some 41, none, .call 63 [(.t 40 []), (.c (I 1)), (.c (I 4))]⟩,
    ⟨some 2, none, .take false (.t 41 [])⟩] [0, 39, 40, 41])
  .ret)))),
  [(2, none)], [(false, .deep)]⟩

def a_spec_l1In : AFunc := ⟨[false, false, false], 15,
  (.pre [.kill [3, 4, 5, 6, 7, 8, 9, 10, 11, 12, 13, 14]] (.seq (.region [⟨some 6, none, .take false (.c (.bool false))⟩] [6])
  (.seq (.region [⟨some 7, none, .mv false (.t 0 [])⟩,
    ⟨some 8, none, .mv false (.t 1 [])⟩,
    ⟨some 9, none, .bin .geq (.t 7 []) (.t 8 [])⟩,
    ⟨some 10, none, .mv false (.t 9 [])⟩,
    ⟨some 11, some (10, true), .mv false (.t 0 [])⟩,
    ⟨some 12, some (10, true), .mv false (.t 2 [])⟩,
    ⟨some 13, some (10, true), .bin .leq (.t 11 []) (.t 12 [])⟩,
    ⟨some 14, none, .pick (.t 10 []) (.t 13 []) (.c (.bool false))⟩,
    ⟨some 6, none, .take false (.t 14 [])⟩] [0, 1, 2, 7, 8, 9, 10, 11, 12, 13, 14])
  .ret))),
  [(6, none)], [(false, .deep)]⟩

def a_impl_IsName : AFunc := ⟨[false], 25,
  (.pre [.kill [1, 2, 3, 4, 5, 6, 7, 8, 9, 10, 11, 12, 13, 14, 15, 16, 17, 18, 19, 20, 21, 22, 23, 24]] (.seq (.region [⟨some 2, none, .take false (.c (.bool false))⟩] [2])
  (.seq (.seq (.region [⟨some 4, none, .mv false (.t 0 [])⟩,
     ⟨some 5, none, .lenS (.t 4 [])⟩,
     ⟨some 6, none, .bin .eql (.t 5 []) (.c (I 0))⟩,
     ⟨some 7, none, .mv false (.t 6 [])⟩,
     ⟨some 8, some (7, false), .mv false (.t 0 [])⟩,
     ⟨some 9, some (7, false), .lenS (.t 8 [])⟩,
     ⟨some 10, some (7, false), .bin .gtr (.t 9 []) (.c (I 4))⟩,
     ⟨some 11, none, .pick (.t 7 []) (.c (.bool true)) (.t 10 [])⟩] [4, 5, 6, 7, 8, 9, 10])
   (.cond (.t 11 [])
    (.pre [.kill [0, 11]] (.seq (.region [⟨some 2, none, .take false (.c (.bool false))⟩] [])
    .ret))
    (.pre [.kill [11]] .skip)))
  (.seq (.seq (.region [⟨some 12, none, .mv false (.t 0 [])⟩,
     ⟨some 13, none, .lenS (.t 12 [])⟩,
     ⟨some 14, none, .take false (.c (I 0))⟩] [12])
   (.block 0 (.pre [.kill [2, 3, 15, 16, 17, 18, 19, 20, 21, 22, 23, 24]] (.loop (.seq (.region [⟨some 15, none, .bin .lss (.t 14 []) (.t 13 [])⟩] [])
     (.seq (.cond (.t 15 [])
       (.pre [.kill [15]] .skip)
       (.pre [.kill [0, 13, 14, 15]] (.exit 0)))
     (.seq (.block 1 (.seq (.region [⟨some 16, none, .mv false (.t 14 [])⟩,
         ⟨some 3, none, .take false (.t 16 [])⟩] [16])
       (.seq (.region [⟨some 17, none, .mv false (.t 0 [])⟩,
         ⟨some 18, none, .mv false (.t 3 [])⟩,
         ⟨some 19, none, .index (.t 17 []) (.t 18 [])⟩,
         ⟨some 20, none, .mv false (.t 3 [])⟩,
         ⟨some 21, none, .bin .eql (.t 20 []) (.c (I 0))⟩,
         ⟨some 22, none, .call 95 [(.t 19 []), (.t 21 [])]⟩,
         ⟨some 23, none, .un .not (.t 22 [])⟩] [3, 17, 18, 19, 20, 21, 22])
       (.cond (.t 23 [])
        (.pre [.kill [0, 13, 14, 23]] (.seq (.region [⟨some 2, none, .take false (.c (.bool false))⟩] [])
        .ret))
        (.pre [.kill [23]] .skip)))))
     (.region [⟨some 24, none, .bin .add (.t 14 []) (.c (I 1))⟩,
      ⟨some 14, none, .mv false (.t 24 [])⟩] [24]))))))))
  (.seq (.region [⟨some 2, none, .take false (.c (.bool true))⟩] [])
  .ret))))),
  [(2, none)], [(false, .deep)]⟩

def a_impl_digitsOf : AFunc := ⟨[false], 20,
  (.pre [.kill [1, 2, 3, 4, 5, 6, 7, 8, 9, 10, 11, 12, 13, 14, 15, 16, 17, 18, 19]] (.seq (.region [⟨some 2, none, .take false (.c (.str ⟨#[]⟩))⟩] [2])
  (.seq (.seq (.region [⟨some 3, none, .mv false (.t 0 [])⟩,
     ⟨some 4, none, .bin .lss (.t 3 []) (.c (.int .u64 10))⟩] [3])
   (.cond (.t 4 [])
    (.pre [.kill [4]] (.seq (.region [⟨some 5, none, .mv false (.t 0 [])⟩,
      ⟨some 6, none, .bin .add (.c (.int .u64 48)) (.t 5 [])⟩,
      ⟨some 7, none, .convInt .u8 (.t 6 [])⟩,
      ⟨some 8, none, .mkSl .deep 1 [(.int .u8 0)] 1 [(0, (.t 7 []))]⟩,
      ⟨some 9, none, .bytesStr (.t 8 [])⟩,
      ⟨some 2, none, .take false (.t 9 [])⟩] [0, 5, 6, 7, 8, 9])
    .ret))
    (.pre [.kill [4]] .skip)))
  (.seq (.region [⟨some 10, none, .mv false (.t 0 [])⟩,
    ⟨some 11, none, .bin .quo (.t 10 []) (.c (.int .u64 10))⟩,
    ⟨some 12, none, .call 96 [(.t 11 [])]⟩,
    ⟨some 13, none, .mv false (.t 0 [])⟩,
    ⟨some 14, none, .bin .rem (.t 13 []) (.c (.int .u64 10))⟩,
    ⟨some 15, none, .bin .add (.c (.int .u64 48)) (.t 14 [])⟩,
    ⟨some 16, none, .convInt .u8 (.t 15 [])⟩,
    ⟨some 17, none, .mkSl .deep 1 [(.int .u8 0)] 1 [(0, (.t 16 []))]⟩,
    ⟨some 18, none, .bytesStr (.t 17 [])⟩,
    ⟨some 19, none, .bin .add (.t 12 []) (.t 18 [])⟩,
    ⟨some 2, none, .take false (.t 19 [])⟩] [0, 10, 11, 12, 13, 14, 15, 16, 17, 18, 19])
  .ret)))),
  [(2, none)], [(false, .deep)]⟩

def a_impl_nameByte : AFunc := ⟨[false, false], 23,
  (.pre [.kill [2, 3, 4, 5, 6, 7, 8, 9, 10, 11, 12, 13, 14, 15, 16, 17, 18, 19, 20, 21, 22]] (.seq (.region [⟨some 4, none, .take false (.c (.bool false))⟩] [4])
  (.seq (.region [⟨some 5, none, .mv false (.t 0 [])⟩,
    ⟨some 6, none, .bin .geq (.t 5 []) (.c (.int .u8 97))⟩,
    ⟨some 7, none, .mv false (.t 6 [])⟩,
    ⟨some 8, some (7, true), .mv false (.t 0 [])⟩,
    ⟨some 9, some (7, true), .bin .leq (.t 8 []) (.c (.int .u8 122))⟩,
    ⟨some 10, none, .pick (.t 7 []) (.t 9 []) (.c (.bool false))⟩,
    ⟨some 11, none, .mv false (.t 10 [])⟩,
    ⟨some 12, some (11, false), .mv false (.t 1 [])⟩,
    ⟨some 13, some (11, false), .un .not (.t 12 [])⟩,
    ⟨some 14, some (11, false), .mv false (.t 13 [])⟩,
    ⟨some 15, some (14, true), .mv false (.t 0 [])⟩,
    ⟨some 16, some (14, true), .bin .geq (.t 15 []) (.c (.int .u8 48))⟩,
    ⟨some 17, some (11, false), .pick (.t 14 []) (.t 16 []) (.c (.bool false))⟩,
    ⟨some 18, some (11, false), .mv false (.t 17 [])⟩,
    ⟨some 19, some (18, true), .mv false (.t 0 [])⟩,
    ⟨some 20, some (18, true), .bin .leq (.t 19 []) (.c (.int .u8 57))⟩,
    ⟨some 21, some (11, false), .pick (.t 18 []) (.t 20 []) (.c (.bool false))⟩,
    ⟨some 22, none, .pick (.t 11 []) (.c (.bool true)) (.t 21 [])⟩,
    ⟨some 4, none, .take false (.t 22 [])⟩] [0, 1, 5, 6, 7, 8, 9, 10, 11, 12, 13, 14, 15, 16, 17, 18, 19, 20, 21, 22])
  .ret))),
  [(4, none)], [(false, .deep)]⟩

def tab : Nat → Option AFunc
  | 6 => some a_laws_FnExactPathText
  | 11 => some a_laws_szStepS
  | 13 => some a_laws_toStepS
  | 39 => some a_spec_PathText
  | 40 => some a_impl_PathText
  | 15 => some a_laws_eqStepS
  | 59 => some a_laws_szStep
  | 60 => some a_laws_toStep
  | 16 => some a_spec_IsPath
  | 69 => some a_spec_FormatInt
  | 17 => some a_impl_IsPath
  | 70 => some a_impl_FormatInt
  | 61 => some a_laws_eqStep
  | 62 => some a_spec_IsName
  | 63 => some a_spec_l1In
  | 64 => some a_impl_IsName
  | 96 => some a_impl_digitsOf
  | 95 => some a_impl_nameByte
  | _ => none
def num : Nat → FuncId
  | 6 => 3
  | 11 => 12
  | 13 => 14
  | 39 => 13
  | 40 => 15
  | 15 => 16
  | 59 => 54
  | 60 => 57
  | 16 => 55
  | 69 => 56
  | 17 => 58
  | 70 => 59
  | 61 => 60
  | 62 => 99
  | 63 => 83
  | 64 => 100
  | 96 => 101
  | 95 => 141
  | _ => 0
theorem k6 : chkFn Try.prog num 6 a_laws_FnExactPathText = true := by kernel_rfl
theorem k11 : chkFn Try.prog num 11 a_laws_szStepS = true := by kernel_rfl
theorem k13 : chkFn Try.prog num 13 a_laws_toStepS = true := by kernel_rfl
theorem k39 : chkFn Try.prog num 39 a_spec_PathText = true := by kernel_rfl
theorem k40 : chkFn Try.prog num 40 a_impl_PathText = true := by kernel_rfl
theorem k15 : chkFn Try.prog num 15 a_laws_eqStepS = true := by kernel_rfl
theorem k59 : chkFn Try.prog num 59 a_laws_szStep = true := by kernel_rfl
theorem k60 : chkFn Try.prog num 60 a_laws_toStep = true := by kernel_rfl
theorem k16 : chkFn Try.prog num 16 a_spec_IsPath = true := by kernel_rfl
theorem k69 : chkFn Try.prog num 69 a_spec_FormatInt = true := by kernel_rfl
theorem k17 : chkFn Try.prog num 17 a_impl_IsPath = true := by kernel_rfl
theorem k70 : chkFn Try.prog num 70 a_impl_FormatInt = true := by kernel_rfl
theorem k61 : chkFn Try.prog num 61 a_laws_eqStep = true := by kernel_rfl
theorem k62 : chkFn Try.prog num 62 a_spec_IsName = true := by kernel_rfl
theorem k63 : chkFn Try.prog num 63 a_spec_l1In = true := by kernel_rfl
theorem k64 : chkFn Try.prog num 64 a_impl_IsName = true := by kernel_rfl
theorem k96 : chkFn Try.prog num 96 a_impl_digitsOf = true := by kernel_rfl
theorem k95 : chkFn Try.prog num 95 a_impl_nameByte = true := by kernel_rfl
theorem tabHF : ∀ k fd, tab k = some fd → ∃ fn c, FnOk Try.prog num k fd fn c := by
  intro k fd h
  unfold tab at h
  split at h
  · injection h with h; subst h; exact chkFn_ _ _ k6
  · injection h with h; subst h; exact chkFn_ _ _ k11
  · injection h with h; subst h; exact chkFn_ _ _ k13
  · injection h with h; subst h; exact chkFn_ _ _ k39
  · injection h with h; subst h; exact chkFn_ _ _ k40
  · injection h with h; subst h; exact chkFn_ _ _ k15
  · injection h with h; subst h; exact chkFn_ _ _ k59
  · injection h with h; subst h; exact chkFn_ _ _ k60
  · injection h with h; subst h; exact chkFn_ _ _ k16
  · injection h with h; subst h; exact chkFn_ _ _ k69
  · injection h with h; subst h; exact chkFn_ _ _ k17
  · injection h with h; subst h; exact chkFn_ _ _ k70
  · injection h with h; subst h; exact chkFn_ _ _ k61
  · injection h with h; subst h; exact chkFn_ _ _ k62
  · injection h with h; subst h; exact chkFn_ _ _ k63
  · injection h with h; subst h; exact chkFn_ _ _ k64
  · injection h with h; subst h; exact chkFn_ _ _ k96
  · injection h with h; subst h; exact chkFn_ _ _ k95
  · cases h
end Go.Proofs.Ytkiliooegoldoaa
