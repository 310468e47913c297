/- The functions of the claim, as abstract code; each is checked against the program. -/
import Derived.Test.YtkiliooegoldoaaSem5
import Derived.Test.YtkiliooegoldoaaChecked
set_option maxRecDepth 100000
namespace Go.Proofs.Ytkiliooegoldoaa
open Go

def a_laws_FnExactEqualLog : AFunc := ⟨[true, true], 45,
  (.seq (.region [⟨some 2, none, .box false (.t 0 [])⟩,
    ⟨some 3, none, .box false (.t 1 [])⟩,
    ⟨some 4, none, .take false (.c (.bool false))⟩] [0, 1, 4])
  (.seq (.region [⟨some 5, none, .take false (.c (I 1048576))⟩] [])
  (.seq (.region [⟨some 10, none, .load (some 10) (.t 2 [2])⟩,
    ⟨some 11, none, .mv false (.t 5 [])⟩,
    ⟨some 12, none, .call 148 [(.t 10 []), (.t 11 [])]⟩,
    ⟨some 5, none, .take false (.t 12 [])⟩] [10, 11, 12])
  (.seq (.seq (.region [⟨some 13, none, .mv false (.t 5 [])⟩,
     ⟨some 14, none, .bin .lss (.t 13 []) (.c (I 0))⟩] [13])
   (.cond (.t 14 [])
    (.seq (.region [⟨some 4, none, .take false (.c (.bool true))⟩] [2, 3, 5, 14])
    .ret)
    .skip))
  (.seq (.region [⟨some 15, none, .load (some 10) (.t 3 [3])⟩,
    ⟨some 16, none, .mv false (.t 5 [])⟩,
    ⟨some 17, none, .call 148 [(.t 15 []), (.t 16 [])]⟩,
    ⟨some 5, none, .take false (.t 17 [])⟩] [14, 15, 16, 17])
  (.seq (.seq (.region [⟨some 18, none, .mv false (.t 5 [])⟩,
     ⟨some 19, none, .bin .lss (.t 18 []) (.c (I 0))⟩] [5, 18])
   (.cond (.t 19 [])
    (.seq (.region [⟨some 4, none, .take false (.c (.bool true))⟩] [2, 3, 19])
    .ret)
    .skip))
  (.seq (.region [⟨some 20, none, .load (some 10) (.t 2 [2])⟩,
    ⟨some 21, none, .call 150 [(.t 20 [])]⟩,
    ⟨some 22, none, .load (some 10) (.t 3 [3])⟩,
    ⟨some 23, none, .call 150 [(.t 22 [])]⟩,
    ⟨some 24, none, .call 149 [(.t 21 []), (.t 23 [])]⟩,
    ⟨some 6, none, .take false (.t 24 [])⟩] [19, 20, 21, 22, 23, 24])
  (.seq (.region [⟨some 25, none, .load (some 10) (.t 2 [2])⟩,
    ⟨some 26, none, .call 150 [(.t 25 [])]⟩,
    ⟨some 7, none, .alloc false [I0, (Z 1), (Z 3), I0, I0, S0, (Z 1), (Z 5), (Z 8), (Z 8)] [.deep, .deep, .deep, .deep, .deep, .deep, .deep, .deep, .deep, .deep]⟩,
    ⟨none, none, .store 10 (.t 7 [7]) (.t 26 [])⟩] [25, 26])
  (.seq (.region [⟨some 27, none, .load (some 10) (.t 3 [3])⟩,
    ⟨some 28, none, .call 150 [(.t 27 [])]⟩,
    ⟨some 8, none, .alloc false [I0, (Z 1), (Z 3), I0, I0, S0, (Z 1), (Z 5), (Z 8), (Z 8)] [.deep, .deep, .deep, .deep, .deep, .deep, .deep, .deep, .deep, .deep]⟩,
    ⟨none, none, .store 10 (.t 8 [8]) (.t 28 [])⟩] [27, 28])
  (.seq (.region [⟨some 29, none, .load (some 10) (.t 7 [7])⟩,
    ⟨some 30, none, .load (some 10) (.t 8 [8])⟩,
    ⟨some 31, none, .call 151 [(.t 29 [7]), (.t 30 [8])]⟩,
    ⟨some 9, none, .take false (.t 31 [])⟩] [29, 30, 31])
  (.seq (.seq (.region [⟨some 32, none, .mv false (.t 9 [])⟩,
     ⟨some 33, none, .mv false (.t 6 [])⟩,
     ⟨some 34, none, .eqB true (.t 32 []) (.t 33 [])⟩] [6, 9, 32, 33])
   (.cond (.t 34 [])
    (.seq (.region [⟨some 4, none, .take false (.c (.bool false))⟩] [2, 3, 7, 8, 34])
    .ret)
    .skip))
  (.seq (.seq (.region [⟨some 35, none, .load (some 10) (.t 7 [7])⟩,
     ⟨some 36, none, .load (some 10) (.t 2 [2])⟩,
     ⟨some 37, none, .call 150 [(.t 36 [])]⟩,
     ⟨some 38, none, .call 152 [(.t 35 [7]), (.t 37 [])]⟩,
     ⟨some 39, none, .un .not (.t 38 [])⟩] [2, 7, 34, 35, 36, 37, 38])
   (.cond (.t 39 [])
    (.seq (.region [⟨some 4, none, .take false (.c (.bool false))⟩] [3, 8, 39])
    .ret)
    .skip))
  (.seq (.seq (.region [⟨some 40, none, .load (some 10) (.t 8 [8])⟩,
     ⟨some 41, none, .load (some 10) (.t 3 [3])⟩,
     ⟨some 42, none, .call 150 [(.t 41 [])]⟩,
     ⟨some 43, none, .call 152 [(.t 40 [8]), (.t 42 [])]⟩,
     ⟨some 44, none, .un .not (.t 43 [])⟩] [3, 8, 39, 40, 41, 42, 43])
   (.cond (.t 44 [])
    (.seq (.region [⟨some 4, none, .take false (.c (.bool false))⟩] [44])
    .ret)
    .skip))
  (.seq (.region [⟨some 4, none, .take false (.c (.bool true))⟩] [44])
  .ret)))))))))))))),
  [(4, none)], [(false, .deep)]⟩

def a_laws_szLog : AFunc := ⟨[true, false], 30,
  (.seq (.region [⟨some 2, none, .box false (.t 0 [])⟩,
    ⟨some 4, none, .take false (.c (I 0))⟩] [0, 4])
  (.seq (.region [⟨some 5, none, .faddr 0 (.t 2 [])⟩,
    ⟨some 6, none, .load (some 3) (.t 5 [2])⟩,
    ⟨some 7, none, .mv false (.t 1 [])⟩,
    ⟨some 8, none, .call 157 [(.t 6 []), (.t 7 [])]⟩,
    ⟨some 1, none, .take false (.t 8 [])⟩] [5, 6, 7, 8])
  (.seq (.seq (.region [⟨some 9, none, .mv false (.t 1 [])⟩,
     ⟨some 10, none, .bin .lss (.t 9 []) (.c (I 0))⟩] [9])
   (.cond (.t 10 [])
    (.seq (.region [⟨some 4, none, .take false (.c (I (-1)))⟩] [1, 2, 10])
    .ret)
    .skip))
  (.seq (.region [⟨some 11, none, .faddr 3 (.t 2 [])⟩,
    ⟨some 12, none, .load (some 5) (.t 11 [2])⟩,
    ⟨some 13, none, .mv false (.t 1 [])⟩,
    ⟨some 14, none, .call 76 [(.t 12 []), (.t 13 [])]⟩,
    ⟨some 1, none, .take false (.t 14 [])⟩] [10, 11, 12, 13, 14])
  (.seq (.seq (.region [⟨some 15, none, .mv false (.t 1 [])⟩,
     ⟨some 16, none, .bin .lss (.t 15 []) (.c (I 0))⟩] [15])
   (.cond (.t 16 [])
    (.seq (.region [⟨some 4, none, .take false (.c (I (-1)))⟩] [1, 2, 16])
    .ret)
    .skip))
  (.seq (.region [⟨some 17, none, .faddr 8 (.t 2 [])⟩,
    ⟨some 18, none, .load none (.t 17 [2])⟩,
    ⟨some 19, none, .mv false (.t 1 [])⟩,
    ⟨some 20, none, .call 41 [(.t 18 []), (.t 19 [])]⟩,
    ⟨some 1, none, .take false (.t 20 [])⟩] [16, 17, 18, 19, 20])
  (.seq (.seq (.region [⟨some 21, none, .mv false (.t 1 [])⟩,
     ⟨some 22, none, .bin .lss (.t 21 []) (.c (I 0))⟩] [21])
   (.cond (.t 22 [])
    (.seq (.region [⟨some 4, none, .take false (.c (I (-1)))⟩] [1, 2, 22])
    .ret)
    .skip))
  (.seq (.region [⟨some 23, none, .faddr 9 (.t 2 [])⟩,
    ⟨some 24, none, .load none (.t 23 [2])⟩,
    ⟨some 25, none, .mv false (.t 1 [])⟩,
    ⟨some 26, none, .call 41 [(.t 24 []), (.t 25 [])]⟩,
    ⟨some 1, none, .take false (.t 26 [])⟩] [2, 22, 24, 25, 26])
  (.seq (.seq (.region [⟨some 27, none, .mv false (.t 1 [])⟩,
     ⟨some 28, none, .bin .lss (.t 27 []) (.c (I 0))⟩] [27])
   (.cond (.t 28 [])
    (.seq (.region [⟨some 4, none, .take false (.c (I (-1)))⟩] [1, 28])
    .ret)
    .skip))
  (.seq (.region [⟨some 29, none, .mv false (.t 1 [])⟩,
    ⟨some 4, none, .take false (.t 29 [])⟩] [1, 28, 29])
  .ret)))))))))),
  [(4, none)], [(false, .deep)]⟩

def a_laws_toLog : AFunc := ⟨[true], 21,
  (.seq (.region [⟨some 1, none, .box false (.t 0 [])⟩,
    ⟨some 2, none, .alloc false [I0, (Z 1), (Z 3), I0, I0, S0, (Z 1), (Z 5), (Z 8), (Z 8)] [.deep, .deep, .deep, .deep, .deep, .deep, .deep, .deep, .deep, .deep]⟩] [0])
  (.seq (.region [⟨some 3, none, .alloc false [I0, (Z 1), (Z 3), I0, I0, S0, (Z 1), (Z 5), (Z 8), (Z 8)] [.deep, .deep, .deep, .deep, .deep, .deep, .deep, .deep, .deep, .deep]⟩] [])
  (.seq (.region [⟨some 4, none, .faddr 0 (.t 1 [])⟩,
    ⟨some 5, none, .load (some 3) (.t 4 [1])⟩,
    ⟨some 6, none, .call 159 [(.t 5 [])]⟩,
    ⟨some 7, none, .faddr 0 (.t 3 [])⟩,
    ⟨none, none, .store 3 (.t 7 [3]) (.t 6 [])⟩] [4, 5, 6, 7])
  (.seq (.region [⟨some 8, none, .faddr 3 (.t 1 [])⟩,
    ⟨some 9, none, .load (some 5) (.t 8 [1])⟩,
    ⟨some 10, none, .call 78 [(.t 9 [])]⟩,
    ⟨some 11, none, .faddr 3 (.t 3 [])⟩,
    ⟨none, none, .store 5 (.t 11 [3]) (.t 10 [])⟩] [8, 9, 10, 11])
  (.seq (.region [⟨some 12, none, .faddr 8 (.t 1 [])⟩,
    ⟨some 13, none, .load none (.t 12 [1])⟩,
    ⟨some 14, none, .call 43 [(.t 13 [])]⟩,
    ⟨some 15, none, .faddr 8 (.t 3 [])⟩,
    ⟨none, none, .store 1 (.t 15 [3]) (.t 14 [])⟩] [12, 13, 14, 15])
  (.seq (.region [⟨some 16, none, .faddr 9 (.t 1 [])⟩,
    ⟨some 17, none, .load none (.t 16 [1])⟩,
    ⟨some 18, none, .call 43 [(.t 17 [])]⟩,
    ⟨some 19, none, .faddr 9 (.t 3 [])⟩,
    ⟨none, none, .store 1 (.t 19 [3]) (.t 18 [])⟩] [1, 17, 18, 19])
  (.seq (.region [⟨some 20, none, .load (some 10) (.t 3 [3])⟩,
    ⟨none, none, .store 10 (.t 2 [2]) (.t 20 [3])⟩] [3, 20])
  .ret))))))),
  [(2, some 10)], [(true, .deep)]⟩

def a_spec_EqualLog : AFunc := ⟨[true, true], 31,
  (.seq (.region [⟨some 2, none, .box false (.t 0 [])⟩,
    ⟨some 3, none, .box false (.t 1 [])⟩,
    ⟨some 4, none, .take false (.c (.bool false))⟩] [0, 1, 4])
  (.seq (.region [⟨some 5, none, .faddr 0 (.t 2 [])⟩,
    ⟨some 6, none, .load (some 3) (.t 5 [2])⟩,
    ⟨some 7, none, .faddr 0 (.t 3 [])⟩,
    ⟨some 8, none, .load (some 3) (.t 7 [3])⟩,
    ⟨some 9, none, .call 174 [(.t 6 []), (.t 8 [])]⟩,
    ⟨some 10, none, .mv false (.t 9 [])⟩,
    ⟨some 11, some (10, true), .faddr 3 (.t 2 [])⟩,
    ⟨some 12, some (10, true), .load (some 5) (.t 11 [2])⟩,
    ⟨some 13, some (10, true), .faddr 3 (.t 3 [])⟩,
    ⟨some 14, some (10, true), .load (some 5) (.t 13 [3])⟩,
    ⟨some 15, some (10, true), .call 175 [(.t 12 []), (.t 14 [])]⟩,
    ⟨some 16, none, .pick (.t 10 []) (.t 15 []) (.c (.bool false))⟩,
    ⟨some 17, none, .mv false (.t 16 [])⟩,
    ⟨some 18, some (17, true), .faddr 8 (.t 2 [])⟩,
    ⟨some 19, some (17, true), .load none (.t 18 [2])⟩,
    ⟨some 20, some (17, true), .faddr 8 (.t 3 [])⟩,
    ⟨some 21, some (17, true), .load none (.t 20 [3])⟩,
    ⟨some 22, some (17, true), .call 176 [(.t 19 []), (.t 21 [])]⟩,
    ⟨some 23, none, .pick (.t 17 []) (.t 22 []) (.c (.bool false))⟩,
    ⟨some 24, none, .mv false (.t 23 [])⟩,
    ⟨some 25, some (24, true), .faddr 9 (.t 2 [])⟩,
    ⟨some 26, some (24, true), .load none (.t 25 [2])⟩,
    ⟨some 27, some (24, true), .faddr 9 (.t 3 [])⟩,
    ⟨some 28, some (24, true), .load none (.t 27 [3])⟩,
    ⟨some 29, some (24, true), .call 176 [(.t 26 []), (.t 28 [])]⟩,
    ⟨some 30, none, .pick (.t 24 []) (.t 29 []) (.c (.bool false))⟩,
    ⟨some 4, none, .take false (.t 30 [])⟩] [2, 3, 6, 8, 9, 10, 12, 14, 15, 16, 17, 19, 21, 22, 23, 24, 26, 28, 29, 30])
  .ret)),
  [(4, none)], [(false, .deep)]⟩

def a_impl_EqualLog : AFunc := ⟨[true, true], 31,
  (.seq (.region [⟨some 2, none, .box false (.t 0 [])⟩,
    ⟨some 3, none, .box false (.t 1 [])⟩,
    ⟨some 4, none, .take false (.c (.bool false))⟩] [0, 1, 4])
  (.seq (.region [⟨some 5, none, .faddr 0 (.t 2 [])⟩,
    ⟨some 6, none, .load (some 3) (.t 5 [2])⟩,
    ⟨some 7, none, .faddr 0 (.t 3 [])⟩,
    ⟨some 8, none, .load (some 3) (.t 7 [3])⟩,
    ⟨some 9, none, .call 177 [(.t 6 []), (.t 8 [])]⟩,
    ⟨some 10, none, .mv false (.t 9 [])⟩,
    ⟨some 11, some (10, true), .faddr 3 (.t 2 [])⟩,
    ⟨some 12, some (10, true), .load (some 5) (.t 11 [2])⟩,
    ⟨some 13, some (10, true), .faddr 3 (.t 3 [])⟩,
    ⟨some 14, some (10, true), .load (some 5) (.t 13 [3])⟩,
    ⟨some 15, some (10, true), .call 178 [(.t 12 []), (.t 14 [])]⟩,
    ⟨some 16, none, .pick (.t 10 []) (.t 15 []) (.c (.bool false))⟩,
    ⟨some 17, none, .mv false (.t 16 [])⟩,
    ⟨some 18, some (17, true), .faddr 8 (.t 2 [])⟩,
    ⟨some 19, some (17, true), .load none (.t 18 [2])⟩,
    ⟨some 20, some (17, true), .faddr 8 (.t 3 [])⟩,
    ⟨some 21, some (17, true), .load none (.t 20 [3])⟩,
    ⟨some 22, some (17, true), .call 179 [(.t 19 []), (.t 21 [])]⟩,
    ⟨some 23, none, .pick (.t 17 []) (.t 22 []) (.c (.bool false))⟩,
    ⟨some 24, none, .mv false (.t 23 [])⟩,
    ⟨some 25, some (24, true), .faddr 9 (.t 2 [])⟩,
    ⟨some 26, some (24, true), .load none (.t 25 [2])⟩,
    ⟨some 27, some (24, true), .faddr 9 (.t 3 [])⟩,
    ⟨some 28, some (24, true), .load none (.t 27 [3])⟩,
    ⟨some 29, some (24, true), .call 179 [(.t 26 []), (.t 28 [])]⟩,
    ⟨some 30, none, .pick (.t 24 []) (.t 29 []) (.c (.bool false))⟩,
    ⟨some 4, none, .take false (.t 30 [])⟩] [2, 3, 6, 8, 9, 10, 12, 14, 15, 16, 17, 19, 21, 22, 23, 24, 26, 28, 29, 30])
  .ret)),
  [(4, none)], [(false, .deep)]⟩

def a_laws_eqLog : AFunc := ⟨[true, true], 29,
  (.seq (.region [⟨some 2, none, .box false (.t 0 [])⟩,
    ⟨some 3, none, .box false (.t 1 [])⟩,
    ⟨some 4, none, .take false (.c (.bool false))⟩] [0, 1, 4])
  (.seq (.seq (.region [⟨some 5, none, .faddr 0 (.t 2 [])⟩,
     ⟨some 6, none, .load (some 3) (.t 5 [2])⟩,
     ⟨some 7, none, .faddr 0 (.t 3 [])⟩,
     ⟨some 8, none, .load (some 3) (.t 7 [3])⟩,
     ⟨some 9, none, .call 161 [(.t 6 []), (.t 8 [])]⟩,
     ⟨some 10, none, .un .not (.t 9 [])⟩] [5, 6, 7, 8, 9])
   (.cond (.t 10 [])
    (.seq (.region [⟨some 4, none, .take false (.c (.bool false))⟩] [2, 3, 10])
    .ret)
    .skip))
  (.seq (.seq (.region [⟨some 11, none, .faddr 3 (.t 2 [])⟩,
     ⟨some 12, none, .load (some 5) (.t 11 [2])⟩,
     ⟨some 13, none, .faddr 3 (.t 3 [])⟩,
     ⟨some 14, none, .load (some 5) (.t 13 [3])⟩,
     ⟨some 15, none, .call 81 [(.t 12 []), (.t 14 [])]⟩,
     ⟨some 16, none, .un .not (.t 15 [])⟩] [10, 11, 12, 13, 14, 15])
   (.cond (.t 16 [])
    (.seq (.region [⟨some 4, none, .take false (.c (.bool false))⟩] [2, 3, 16])
    .ret)
    .skip))
  (.seq (.seq (.region [⟨some 17, none, .faddr 8 (.t 2 [])⟩,
     ⟨some 18, none, .load none (.t 17 [2])⟩,
     ⟨some 19, none, .faddr 8 (.t 3 [])⟩,
     ⟨some 20, none, .load none (.t 19 [3])⟩,
     ⟨some 21, none, .call 45 [(.t 18 []), (.t 20 [])]⟩,
     ⟨some 22, none, .un .not (.t 21 [])⟩] [16, 17, 18, 19, 20, 21])
   (.cond (.t 22 [])
    (.seq (.region [⟨some 4, none, .take false (.c (.bool false))⟩] [2, 3, 22])
    .ret)
    .skip))
  (.seq (.seq (.region [⟨some 23, none, .faddr 9 (.t 2 [])⟩,
     ⟨some 24, none, .load none (.t 23 [2])⟩,
     ⟨some 25, none, .faddr 9 (.t 3 [])⟩,
     ⟨some 26, none, .load none (.t 25 [3])⟩,
     ⟨some 27, none, .call 45 [(.t 24 []), (.t 26 [])]⟩,
     ⟨some 28, none, .un .not (.t 27 [])⟩] [2, 3, 22, 24, 26, 27])
   (.cond (.t 28 [])
    (.seq (.region [⟨some 4, none, .take false (.c (.bool false))⟩] [28])
    .ret)
    .skip))
  (.seq (.region [⟨some 4, none, .take false (.c (.bool true))⟩] [28])
  .ret)))))),
  [(4, none)], [(false, .deep)]⟩

def a_laws_szType : AFunc := ⟨[true, false], 18,
  (.seq (.region [⟨some 2, none, .box false (.t 0 [])⟩,
    ⟨some 4, none, .take false (.c (I 0))⟩] [0, 4])
  (.seq (.region [⟨some 5, none, .faddr 1 (.t 2 [])⟩,
    ⟨some 6, none, .load none (.t 5 [2])⟩,
    ⟨some 7, none, .mv false (.t 1 [])⟩,
    ⟨some 8, none, .call 97 [(.t 6 []), (.t 7 [])]⟩,
    ⟨some 1, none, .take false (.t 8 [])⟩] [5, 6, 7, 8])
  (.seq (.seq (.region [⟨some 9, none, .mv false (.t 1 [])⟩,
     ⟨some 10, none, .bin .lss (.t 9 []) (.c (I 0))⟩] [9])
   (.cond (.t 10 [])
    (.seq (.region [⟨some 4, none, .take false (.c (I (-1)))⟩] [1, 2, 10])
    .ret)
    .skip))
  (.seq (.region [⟨some 11, none, .faddr 2 (.t 2 [])⟩,
    ⟨some 12, none, .load none (.t 11 [2])⟩,
    ⟨some 13, none, .mv false (.t 1 [])⟩,
    ⟨some 14, none, .call 184 [(.t 12 []), (.t 13 [])]⟩,
    ⟨some 1, none, .take false (.t 14 [])⟩] [2, 10, 12, 13, 14])
  (.seq (.seq (.region [⟨some 15, none, .mv false (.t 1 [])⟩,
     ⟨some 16, none, .bin .lss (.t 15 []) (.c (I 0))⟩] [15])
   (.cond (.t 16 [])
    (.seq (.region [⟨some 4, none, .take false (.c (I (-1)))⟩] [1, 16])
    .ret)
    .skip))
  (.seq (.region [⟨some 17, none, .mv false (.t 1 [])⟩,
    ⟨some 4, none, .take false (.t 17 [])⟩] [1, 16, 17])
  .ret)))))),
  [(4, none)], [(false, .deep)]⟩

def a_laws_szValue : AFunc := ⟨[true, false], 25,
  (.seq (.region [⟨some 2, none, .box false (.t 0 [])⟩,
    ⟨some 4, none, .take false (.c (I 0))⟩] [0, 4])
  (.seq (.region [⟨some 5, none, .mv false (.t 1 [])⟩,
    ⟨some 6, none, .faddr 2 (.t 2 [])⟩,
    ⟨some 7, none, .load none (.t 6 [2])⟩,
    ⟨some 8, none, .lenS (.t 7 [])⟩,
    ⟨some 9, none, .bin .sub (.t 5 []) (.t 8 [])⟩,
    ⟨some 1, none, .take false (.t 9 [])⟩] [5, 6, 7, 8, 9])
  (.seq (.seq (.region [⟨some 10, none, .mv false (.t 1 [])⟩,
     ⟨some 11, none, .bin .lss (.t 10 []) (.c (I 0))⟩] [10])
   (.cond (.t 11 [])
    (.seq (.region [⟨some 4, none, .take false (.c (I (-1)))⟩] [1, 2, 11])
    .ret)
    .skip))
  (.seq (.region [⟨some 12, none, .faddr 3 (.t 2 [])⟩,
    ⟨some 13, none, .load none (.t 12 [2])⟩,
    ⟨some 14, none, .mv false (.t 1 [])⟩,
    ⟨some 15, none, .call 97 [(.t 13 []), (.t 14 [])]⟩,
    ⟨some 1, none, .take false (.t 15 [])⟩] [11, 12, 13, 14, 15])
  (.seq (.seq (.region [⟨some 16, none, .mv false (.t 1 [])⟩,
     ⟨some 17, none, .bin .lss (.t 16 []) (.c (I 0))⟩] [16])
   (.cond (.t 17 [])
    (.seq (.region [⟨some 4, none, .take false (.c (I (-1)))⟩] [1, 2, 17])
    .ret)
    .skip))
  (.seq (.region [⟨some 18, none, .faddr 4 (.t 2 [])⟩,
    ⟨some 19, none, .load none (.t 18 [2])⟩,
    ⟨some 20, none, .mv false (.t 1 [])⟩,
    ⟨some 21, none, .call 98 [(.t 19 []), (.t 20 [])]⟩,
    ⟨some 1, none, .take false (.t 21 [])⟩] [2, 17, 19, 20, 21])
  (.seq (.seq (.region [⟨some 22, none, .mv false (.t 1 [])⟩,
     ⟨some 23, none, .bin .lss (.t 22 []) (.c (I 0))⟩] [22])
   (.cond (.t 23 [])
    (.seq (.region [⟨some 4, none, .take false (.c (I (-1)))⟩] [1, 23])
    .ret)
    .skip))
  (.seq (.region [⟨some 24, none, .mv false (.t 1 [])⟩,
    ⟨some 4, none, .take false (.t 24 [])⟩] [1, 23, 24])
  .ret)))))))),
  [(4, none)], [(false, .deep)]⟩

def a_laws_szEditS : AFunc := ⟨[false, false], 27,
  (.seq (.region [⟨some 4, none, .take false (.c (I 0))⟩] [4])
  (.seq (.region [⟨some 6, none, .mv false (.t 1 [])⟩,
    ⟨some 7, none, .mv false (.t 0 [])⟩,
    ⟨some 8, none, .len (.t 7 [])⟩,
    ⟨some 9, none, .bin .sub (.t 6 []) (.t 8 [])⟩,
    ⟨some 1, none, .take false (.t 9 [])⟩] [6, 7, 8, 9])
  (.seq (.seq (.region [⟨some 10, none, .mv false (.t 1 [])⟩,
     ⟨some 11, none, .bin .lss (.t 10 []) (.c (I 0))⟩] [10])
   (.cond (.t 11 [])
    (.seq (.region [⟨some 4, none, .take false (.c (I (-1)))⟩] [0, 1, 11])
    .ret)
    .skip))
  (.seq (.seq (.region [⟨some 5, none, .take false (.c (I 0))⟩] [11])
   (.block 0 (.pre [.kill [4, 12, 13, 14, 15, 16, 17, 18, 19, 20, 21, 22, 23, 24, 25]] (.loop (.seq (.seq (.region [⟨some 12, none, .mv false (.t 5 [])⟩,
        ⟨some 13, none, .mv false (.t 0 [])⟩,
        ⟨some 14, none, .len (.t 13 [])⟩,
        ⟨some 15, none, .bin .lss (.t 12 []) (.t 14 [])⟩] [12, 13, 14])
      (.cond (.t 15 [])
       .skip
       (.exit 0)))
     (.seq (.block 1 (.seq (.region [⟨some 18, none, .mv false (.t 0 [])⟩,
         ⟨some 19, none, .mv false (.t 5 [])⟩,
         ⟨some 20, none, .iaddr 8 (.t 18 []) (.t 19 [])⟩,
         ⟨some 21, none, .load (some 8) (.t 20 [])⟩,
         ⟨some 22, none, .mv false (.t 1 [])⟩,
         ⟨some 23, none, .call 71 [(.t 21 []), (.t 22 [])]⟩,
         ⟨some 1, none, .take false (.t 23 [])⟩] [15, 18, 19, 20, 21, 22, 23])
       (.seq (.region [⟨some 24, none, .mv false (.t 1 [])⟩,
         ⟨some 25, none, .bin .lss (.t 24 []) (.c (I 0))⟩] [24])
       (.cond (.t 25 [])
        (.seq (.region [⟨some 4, none, .take false (.c (I (-1)))⟩] [0, 1, 5, 25])
        .ret)
        .skip))))
     (.region [⟨some 16, none, .mv false (.t 5 [])⟩,
      ⟨some 17, none, .bin .add (.t 16 []) (.c (I 1))⟩,
      ⟨some 5, none, .take false (.t 17 [])⟩] [16, 17, 25])))))))
  (.seq (.region [⟨some 26, none, .mv false (.t 1 [])⟩,
    ⟨some 4, none, .take false (.t 26 [])⟩] [0, 1, 5, 15, 26])
  .ret))))),
  [(4, none)], [(false, .deep)]⟩

def a_laws_toType : AFunc := ⟨[true], 16,
  (.seq (.region [⟨some 1, none, .box false (.t 0 [])⟩,
    ⟨some 2, none, .alloc false [I0, (Z 1), (Z 3)] [.deep, .deep, .deep]⟩] [0])
  (.seq (.region [⟨some 3, none, .alloc false [I0, (Z 1), (Z 3)] [.deep, .deep, .deep]⟩] [])
  (.seq (.region [⟨some 4, none, .faddr 0 (.t 1 [])⟩,
    ⟨some 5, none, .load none (.t 4 [1])⟩,
    ⟨some 6, none, .faddr 0 (.t 3 [])⟩,
    ⟨none, none, .store 1 (.t 6 [3]) (.t 5 [])⟩] [4, 5, 6])
  (.seq (.region [⟨some 7, none, .faddr 1 (.t 1 [])⟩,
    ⟨some 8, none, .load none (.t 7 [1])⟩,
    ⟨some 9, none, .call 100 [(.t 8 [])]⟩,
    ⟨some 10, none, .faddr 1 (.t 3 [])⟩,
    ⟨none, none, .store 1 (.t 10 [3]) (.t 9 [])⟩] [7, 8, 9, 10])
  (.seq (.region [⟨some 11, none, .faddr 2 (.t 1 [])⟩,
    ⟨some 12, none, .load none (.t 11 [1])⟩,
    ⟨some 13, none, .call 188 [(.t 12 [])]⟩,
    ⟨some 14, none, .faddr 2 (.t 3 [])⟩,
    ⟨none, none, .store 1 (.t 14 [3]) (.t 13 [])⟩] [1, 12, 13, 14])
  (.seq (.region [⟨some 15, none, .load (some 3) (.t 3 [3])⟩,
    ⟨none, none, .store 3 (.t 2 [2]) (.t 15 [3])⟩] [3, 15])
  .ret)))))),
  [(2, some 3)], [(true, .deep)]⟩

def a_laws_toValue : AFunc := ⟨[true], 22,
  (.seq (.region [⟨some 1, none, .box false (.t 0 [])⟩,
    ⟨some 2, none, .alloc false [I0, I0, S0, (Z 1), (Z 5)] [.deep, .deep, .deep, .deep, .deep]⟩] [0])
  (.seq (.region [⟨some 3, none, .alloc false [I0, I0, S0, (Z 1), (Z 5)] [.deep, .deep, .deep, .deep, .deep]⟩] [])
  (.seq (.region [⟨some 4, none, .faddr 0 (.t 1 [])⟩,
    ⟨some 5, none, .load none (.t 4 [1])⟩,
    ⟨some 6, none, .faddr 0 (.t 3 [])⟩,
    ⟨none, none, .store 1 (.t 6 [3]) (.t 5 [])⟩] [4, 5, 6])
  (.seq (.region [⟨some 7, none, .faddr 1 (.t 1 [])⟩,
    ⟨some 8, none, .load none (.t 7 [1])⟩,
    ⟨some 9, none, .faddr 1 (.t 3 [])⟩,
    ⟨none, none, .store 1 (.t 9 [3]) (.t 8 [])⟩] [7, 8, 9])
  (.seq (.region [⟨some 10, none, .faddr 2 (.t 1 [])⟩,
    ⟨some 11, none, .load none (.t 10 [1])⟩,
    ⟨some 12, none, .faddr 2 (.t 3 [])⟩,
    ⟨none, none, .store 1 (.t 12 [3]) (.t 11 [])⟩] [10, 11, 12])
  (.seq (.region [⟨some 13, none, .faddr 3 (.t 1 [])⟩,
    ⟨some 14, none, .load none (.t 13 [1])⟩,
    ⟨some 15, none, .call 100 [(.t 14 [])]⟩,
    ⟨some 16, none, .faddr 3 (.t 3 [])⟩,
    ⟨none, none, .store 1 (.t 16 [3]) (.t 15 [])⟩] [13, 14, 15, 16])
  (.seq (.region [⟨some 17, none, .faddr 4 (.t 1 [])⟩,
    ⟨some 18, none, .load none (.t 17 [1])⟩,
    ⟨some 19, none, .call 101 [(.t 18 [])]⟩,
    ⟨some 20, none, .faddr 4 (.t 3 [])⟩,
    ⟨none, none, .store 1 (.t 20 [3]) (.t 19 [])⟩] [1, 18, 19, 20])
  (.seq (.region [⟨some 21, none, .load (some 5) (.t 3 [3])⟩,
    ⟨none, none, .store 5 (.t 2 [2]) (.t 21 [3])⟩] [3, 21])
  .ret)))))))),
  [(2, some 5)], [(true, .deep)]⟩

def a_laws_toEditS : AFunc := ⟨[false], 23,
  (.seq (.region [⟨some 2, none, .take false (.c (Z 8))⟩] [2])
  (.seq (.region [⟨some 5, none, .mv false (.t 0 [])⟩,
    ⟨some 6, none, .len (.t 5 [])⟩,
    ⟨some 7, none, .make .deep 8 [I0, (Z 3), I0, I0, S0, (Z 1), (Z 5), I0] (.t 6 [])⟩,
    ⟨some 3, none, .take false (.t 7 [])⟩] [5, 6, 7])
  (.seq (.seq (.region [⟨some 4, none, .take false (.c (I 0))⟩] [])
   (.block 0 (.pre [.kill [8, 9, 10, 11, 12, 13, 14, 15, 16, 17, 18, 19, 20, 21]] (.loop (.seq (.seq (.region [⟨some 8, none, .mv false (.t 4 [])⟩,
        ⟨some 9, none, .mv false (.t 0 [])⟩,
        ⟨some 10, none, .len (.t 9 [])⟩,
        ⟨some 11, none, .bin .lss (.t 8 []) (.t 10 [])⟩] [8, 9, 10])
      (.cond (.t 11 [])
       .skip
       (.exit 0)))
     (.seq (.block 1 (.region [⟨some 14, none, .mv false (.t 3 [])⟩,
        ⟨some 15, none, .mv false (.t 4 [])⟩,
        ⟨some 16, none, .mv false (.t 0 [])⟩,
        ⟨some 17, none, .mv false (.t 4 [])⟩,
        ⟨some 18, none, .iaddr 8 (.t 16 []) (.t 17 [])⟩,
        ⟨some 19, none, .load (some 8) (.t 18 [])⟩,
        ⟨some 20, none, .call 73 [(.t 19 [])]⟩,
        ⟨some 21, none, .iaddr 8 (.t 14 [3]) (.t 15 [])⟩,
        ⟨none, none, .store 8 (.t 21 [3]) (.t 20 [])⟩] [11, 14, 15, 16, 17, 18, 19, 20]))
     (.region [⟨some 12, none, .mv false (.t 4 [])⟩,
      ⟨some 13, none, .bin .add (.t 12 []) (.c (I 1))⟩,
      ⟨some 4, none, .take false (.t 13 [])⟩] [12, 13])))))))
  (.seq (.region [⟨some 22, none, .mv false (.t 3 [])⟩,
    ⟨some 2, none, .take false (.t 22 [3])⟩] [0, 3, 4, 11, 22])
  .ret)))),
  [(2, none)], [(false, .deep)]⟩

def a_spec_EqualType : AFunc := ⟨[true, true], 47,
  (.seq (.region [⟨some 2, none, .box false (.t 0 [])⟩,
    ⟨some 3, none, .box false (.t 1 [])⟩,
    ⟨some 4, none, .take false (.c (.bool false))⟩] [0, 1, 4])
  (.seq (.seq (.region [⟨some 6, none, .faddr 0 (.t 2 [])⟩,
     ⟨some 7, none, .load none (.t 6 [2])⟩,
     ⟨some 8, none, .faddr 0 (.t 3 [])⟩,
     ⟨some 9, none, .load none (.t 8 [3])⟩,
     ⟨some 10, none, .bin .neq (.t 7 []) (.t 9 [])⟩,
     ⟨some 11, none, .mv false (.t 10 [])⟩,
     ⟨some 12, some (11, false), .faddr 1 (.t 2 [])⟩,
     ⟨some 13, some (11, false), .load none (.t 12 [2])⟩,
     ⟨some 14, some (11, false), .faddr 1 (.t 3 [])⟩,
     ⟨some 15, some (11, false), .load none (.t 14 [3])⟩,
     ⟨some 16, some (11, false), .call 208 [(.t 13 []), (.t 15 [])]⟩,
     ⟨some 17, some (11, false), .un .not (.t 16 [])⟩,
     ⟨some 18, none, .pick (.t 11 []) (.c (.bool true)) (.t 17 [])⟩,
     ⟨some 19, none, .mv false (.t 18 [])⟩,
     ⟨some 20, some (19, false), .faddr 2 (.t 2 [])⟩,
     ⟨some 21, some (19, false), .load none (.t 20 [2])⟩,
     ⟨some 22, some (19, false), .len (.t 21 [])⟩,
     ⟨some 23, some (19, false), .faddr 2 (.t 3 [])⟩,
     ⟨some 24, some (19, false), .load none (.t 23 [3])⟩,
     ⟨some 25, some (19, false), .len (.t 24 [])⟩,
     ⟨some 26, some (19, false), .bin .neq (.t 22 []) (.t 25 [])⟩,
     ⟨some 27, none, .pick (.t 19 []) (.c (.bool true)) (.t 26 [])⟩] [6, 7, 8, 9, 10, 11, 12, 13, 14, 15, 16, 17, 18, 19, 20, 21, 22, 23, 24, 25, 26])
   (.cond (.t 27 [])
    (.seq (.region [⟨some 4, none, .take false (.c (.bool false))⟩] [2, 3, 27])
    .ret)
    .skip))
  (.seq (.seq (.region [⟨some 5, none, .take false (.c (I 0))⟩] [27])
   (.block 0 (.pre [.kill [4, 28, 29, 30, 31, 32, 33, 34, 35, 36, 37, 38, 39, 40, 41, 42, 43, 44, 45, 46]] (.loop (.seq (.seq (.region [⟨some 28, none, .mv false (.t 5 [])⟩,
        ⟨some 29, none, .faddr 2 (.t 2 [])⟩,
        ⟨some 30, none, .load none (.t 29 [2])⟩,
        ⟨some 31, none, .len (.t 30 [])⟩,
        ⟨some 32, none, .bin .lss (.t 28 []) (.t 31 [])⟩] [28, 29, 30, 31])
      (.cond (.t 32 [])
       .skip
       (.exit 0)))
     (.seq (.block 1 (.seq (.region [⟨some 35, none, .faddr 2 (.t 2 [])⟩,
         ⟨some 36, none, .load none (.t 35 [2])⟩,
         ⟨some 37, none, .mv false (.t 5 [])⟩,
         ⟨some 38, none, .iaddr 3 (.t 36 []) (.t 37 [])⟩,
         ⟨some 39, none, .load (some 3) (.t 38 [])⟩,
         ⟨some 40, none, .faddr 2 (.t 3 [])⟩,
         ⟨some 41, none, .load none (.t 40 [3])⟩,
         ⟨some 42, none, .mv false (.t 5 [])⟩,
         ⟨some 43, none, .iaddr 3 (.t 41 []) (.t 42 [])⟩,
         ⟨some 44, none, .load (some 3) (.t 43 [])⟩,
         ⟨some 45, none, .call 174 [(.t 39 []), (.t 44 [])]⟩,
         ⟨some 46, none, .un .not (.t 45 [])⟩] [32, 35, 36, 37, 38, 39, 40, 41, 42, 43, 44, 45])
       (.cond (.t 46 [])
        (.seq (.region [⟨some 4, none, .take false (.c (.bool false))⟩] [2, 3, 5, 46])
        .ret)
        .skip)))
     (.region [⟨some 33, none, .mv false (.t 5 [])⟩,
      ⟨some 34, none, .bin .add (.t 33 []) (.c (I 1))⟩,
      ⟨some 5, none, .take false (.t 34 [])⟩] [33, 34, 46])))))))
  (.seq (.region [⟨some 4, none, .take false (.c (.bool true))⟩] [2, 3, 5, 32])
  .ret)))),
  [(4, none)], [(false, .deep)]⟩

def a_spec_EqualValue : AFunc := ⟨[true, true], 61,
  (.seq (.region [⟨some 2, none, .box false (.t 0 [])⟩,
    ⟨some 3, none, .box false (.t 1 [])⟩,
    ⟨some 4, none, .take false (.c (.bool false))⟩] [0, 1, 4])
  (.seq (.seq (.region [⟨some 6, none, .faddr 0 (.t 2 [])⟩,
     ⟨some 7, none, .load none (.t 6 [2])⟩,
     ⟨some 8, none, .faddr 0 (.t 3 [])⟩,
     ⟨some 9, none, .load none (.t 8 [3])⟩,
     ⟨some 10, none, .bin .neq (.t 7 []) (.t 9 [])⟩,
     ⟨some 11, none, .mv false (.t 10 [])⟩,
     ⟨some 12, some (11, false), .faddr 1 (.t 2 [])⟩,
     ⟨some 13, some (11, false), .load none (.t 12 [2])⟩,
     ⟨some 14, some (11, false), .faddr 1 (.t 3 [])⟩,
     ⟨some 15, some (11, false), .load none (.t 14 [3])⟩,
     ⟨some 16, some (11, false), .bin .neq (.t 13 []) (.t 15 [])⟩,
     ⟨some 17, none, .pick (.t 11 []) (.c (.bool true)) (.t 16 [])⟩,
     ⟨some 18, none, .mv false (.t 17 [])⟩,
     ⟨some 19, some (18, false), .faddr 2 (.t 2 [])⟩,
     ⟨some 20, some (18, false), .load none (.t 19 [2])⟩,
     ⟨some 21, some (18, false), .faddr 2 (.t 3 [])⟩,
     ⟨some 22, some (18, false), .load none (.t 21 [3])⟩,
     ⟨some 23, some (18, false), .bin .neq (.t 20 []) (.t 22 [])⟩,
     ⟨some 24, none, .pick (.t 18 []) (.c (.bool true)) (.t 23 [])⟩,
     ⟨some 25, none, .mv false (.t 24 [])⟩,
     ⟨some 26, some (25, false), .faddr 3 (.t 2 [])⟩,
     ⟨some 27, some (25, false), .load none (.t 26 [2])⟩,
     ⟨some 28, some (25, false), .faddr 3 (.t 3 [])⟩,
     ⟨some 29, some (25, false), .load none (.t 28 [3])⟩,
     ⟨some 30, some (25, false), .call 208 [(.t 27 []), (.t 29 [])]⟩,
     ⟨some 31, some (25, false), .un .not (.t 30 [])⟩,
     ⟨some 32, none, .pick (.t 25 []) (.c (.bool true)) (.t 31 [])⟩,
     ⟨some 33, none, .mv false (.t 32 [])⟩,
     ⟨some 34, some (33, false), .faddr 4 (.t 2 [])⟩,
     ⟨some 35, some (33, false), .load none (.t 34 [2])⟩,
     ⟨some 36, some (33, false), .len (.t 35 [])⟩,
     ⟨some 37, some (33, false), .faddr 4 (.t 3 [])⟩,
     ⟨some 38, some (33, false), .load none (.t 37 [3])⟩,
     ⟨some 39, some (33, false), .len (.t 38 [])⟩,
     ⟨some 40, some (33, false), .bin .neq (.t 36 []) (.t 39 [])⟩,
     ⟨some 41, none, .pick (.t 33 []) (.c (.bool true)) (.t 40 [])⟩] [6, 7, 8, 9, 10, 11, 12, 13, 14, 15, 16, 17, 18, 19, 20, 21, 22, 23, 24, 25, 26, 27, 28, 29, 30, 31, 32, 33, 34, 35, 36, 37, 38, 39, 40])
   (.cond (.t 41 [])
    (.seq (.region [⟨some 4, none, .take false (.c (.bool false))⟩] [2, 3, 41])
    .ret)
    .skip))
  (.seq (.seq (.region [⟨some 5, none, .take false (.c (I 0))⟩] [41])
   (.block 0 (.pre [.kill [4, 42, 43, 44, 45, 46, 47, 48, 49, 50, 51, 52, 53, 54, 55, 56, 57, 58, 59, 60]] (.loop (.seq (.seq (.region [⟨some 42, none, .mv false (.t 5 [])⟩,
        ⟨some 43, none, .faddr 4 (.t 2 [])⟩,
        ⟨some 44, none, .load none (.t 43 [2])⟩,
        ⟨some 45, none, .len (.t 44 [])⟩,
        ⟨some 46, none, .bin .lss (.t 42 []) (.t 45 [])⟩] [42, 43, 44, 45])
      (.cond (.t 46 [])
       .skip
       (.exit 0)))
     (.seq (.block 1 (.seq (.region [⟨some 49, none, .faddr 4 (.t 2 [])⟩,
         ⟨some 50, none, .load none (.t 49 [2])⟩,
         ⟨some 51, none, .mv false (.t 5 [])⟩,
         ⟨some 52, none, .iaddr 5 (.t 50 []) (.t 51 [])⟩,
         ⟨some 53, none, .load (some 5) (.t 52 [])⟩,
         ⟨some 54, none, .faddr 4 (.t 3 [])⟩,
         ⟨some 55, none, .load none (.t 54 [3])⟩,
         ⟨some 56, none, .mv false (.t 5 [])⟩,
         ⟨some 57, none, .iaddr 5 (.t 55 []) (.t 56 [])⟩,
         ⟨some 58, none, .load (some 5) (.t 57 [])⟩,
         ⟨some 59, none, .call 175 [(.t 53 []), (.t 58 [])]⟩,
         ⟨some 60, none, .un .not (.t 59 [])⟩] [46, 49, 50, 51, 52, 53, 54, 55, 56, 57, 58, 59])
       (.cond (.t 60 [])
        (.seq (.region [⟨some 4, none, .take false (.c (.bool false))⟩] [2, 3, 5, 60])
        .ret)
        .skip)))
     (.region [⟨some 47, none, .mv false (.t 5 [])⟩,
      ⟨some 48, none, .bin .add (.t 47 []) (.c (I 1))⟩,
      ⟨some 5, none, .take false (.t 48 [])⟩] [47, 48, 60])))))))
  (.seq (.region [⟨some 4, none, .take false (.c (.bool true))⟩] [2, 3, 5, 46])
  .ret)))),
  [(4, none)], [(false, .deep)]⟩

def a_spec_l21Same : AFunc := ⟨[false, false], 27,
  (.seq (.region [⟨some 4, none, .take false (.c (.bool false))⟩] [4])
  (.seq (.seq (.region [⟨some 6, none, .mv false (.t 0 [])⟩,
     ⟨some 7, none, .len (.t 6 [])⟩,
     ⟨some 8, none, .mv false (.t 1 [])⟩,
     ⟨some 9, none, .len (.t 8 [])⟩,
     ⟨some 10, none, .bin .neq (.t 7 []) (.t 9 [])⟩] [6, 7, 8, 9])
   (.cond (.t 10 [])
    (.seq (.region [⟨some 4, none, .take false (.c (.bool false))⟩] [0, 1, 10])
    .ret)
    .skip))
  (.seq (.seq (.region [⟨some 5, none, .take false (.c (I 0))⟩] [10])
   (.block 0 (.pre [.kill [4, 11, 12, 13, 14, 15, 16, 17, 18, 19, 20, 21, 22, 23, 24, 25, 26]] (.loop (.seq (.seq (.region [⟨some 11, none, .mv false (.t 5 [])⟩,
        ⟨some 12, none, .mv false (.t 0 [])⟩,
        ⟨some 13, none, .len (.t 12 [])⟩,
        ⟨some 14, none, .bin .lss (.t 11 []) (.t 13 [])⟩] [11, 12, 13])
      (.cond (.t 14 [])
       .skip
       (.exit 0)))
     (.seq (.block 1 (.seq (.region [⟨some 17, none, .mv false (.t 0 [])⟩,
         ⟨some 18, none, .mv false (.t 5 [])⟩,
         ⟨some 19, none, .iaddr 8 (.t 17 []) (.t 18 [])⟩,
         ⟨some 20, none, .load (some 8) (.t 19 [])⟩,
         ⟨some 21, none, .mv false (.t 1 [])⟩,
         ⟨some 22, none, .mv false (.t 5 [])⟩,
         ⟨some 23, none, .iaddr 8 (.t 21 []) (.t 22 [])⟩,
         ⟨some 24, none, .load (some 8) (.t 23 [])⟩,
         ⟨some 25, none, .call 209 [(.t 20 []), (.t 24 [])]⟩,
         ⟨some 26, none, .un .not (.t 25 [])⟩] [14, 17, 18, 19, 20, 21, 22, 23, 24, 25])
       (.cond (.t 26 [])
        (.seq (.region [⟨some 4, none, .take false (.c (.bool false))⟩] [0, 1, 5, 26])
        .ret)
        .skip)))
     (.region [⟨some 15, none, .mv false (.t 5 [])⟩,
      ⟨some 16, none, .bin .add (.t 15 []) (.c (I 1))⟩,
      ⟨some 5, none, .take false (.t 16 [])⟩] [15, 16, 26])))))))
  (.seq (.region [⟨some 4, none, .take false (.c (.bool true))⟩] [0, 1, 5, 14])
  .ret)))),
  [(4, none)], [(false, .deep)]⟩

def a_impl_EqualType : AFunc := ⟨[true, true], 47,
  (.seq (.region [⟨some 2, none, .box false (.t 0 [])⟩,
    ⟨some 3, none, .box false (.t 1 [])⟩,
    ⟨some 4, none, .take false (.c (.bool false))⟩] [0, 1, 4])
  (.seq (.seq (.region [⟨some 6, none, .faddr 0 (.t 2 [])⟩,
     ⟨some 7, none, .load none (.t 6 [2])⟩,
     ⟨some 8, none, .faddr 0 (.t 3 [])⟩,
     ⟨some 9, none, .load none (.t 8 [3])⟩,
     ⟨some 10, none, .bin .neq (.t 7 []) (.t 9 [])⟩,
     ⟨some 11, none, .mv false (.t 10 [])⟩,
     ⟨some 12, some (11, false), .faddr 1 (.t 2 [])⟩,
     ⟨some 13, some (11, false), .load none (.t 12 [2])⟩,
     ⟨some 14, some (11, false), .faddr 1 (.t 3 [])⟩,
     ⟨some 15, some (11, false), .load none (.t 14 [3])⟩,
     ⟨some 16, some (11, false), .call 210 [(.t 13 []), (.t 15 [])]⟩,
     ⟨some 17, some (11, false), .un .not (.t 16 [])⟩,
     ⟨some 18, none, .pick (.t 11 []) (.c (.bool true)) (.t 17 [])⟩,
     ⟨some 19, none, .mv false (.t 18 [])⟩,
     ⟨some 20, some (19, false), .faddr 2 (.t 2 [])⟩,
     ⟨some 21, some (19, false), .load none (.t 20 [2])⟩,
     ⟨some 22, some (19, false), .len (.t 21 [])⟩,
     ⟨some 23, some (19, false), .faddr 2 (.t 3 [])⟩,
     ⟨some 24, some (19, false), .load none (.t 23 [3])⟩,
     ⟨some 25, some (19, false), .len (.t 24 [])⟩,
     ⟨some 26, some (19, false), .bin .neq (.t 22 []) (.t 25 [])⟩,
     ⟨some 27, none, .pick (.t 19 []) (.c (.bool true)) (.t 26 [])⟩] [6, 7, 8, 9, 10, 11, 12, 13, 14, 15, 16, 17, 18, 19, 20, 21, 22, 23, 24, 25, 26])
   (.cond (.t 27 [])
    (.seq (.region [⟨some 4, none, .take false (.c (.bool false))⟩] [2, 3, 27])
    .ret)
    .skip))
  (.seq (.seq (.region [⟨some 28, none, .faddr 2 (.t 2 [])⟩,
     ⟨some 29, none, .load none (.t 28 [2])⟩,
     ⟨some 30, none, .len (.t 29 [])⟩,
     ⟨some 31, none, .take false (.c (I 0))⟩] [27, 28, 29])
   (.block 0 (.pre [.kill [4, 5, 32, 33, 34, 35, 36, 37, 38, 39, 40, 41, 42, 43, 44, 45, 46]] (.loop (.seq (.region [⟨some 32, none, .bin .lss (.t 31 []) (.t 30 [])⟩] [])
     (.seq (.cond (.t 32 [])
       .skip
       (.exit 0))
     (.seq (.block 1 (.seq (.region [⟨some 33, none, .mv false (.t 31 [])⟩,
         ⟨some 5, none, .take false (.t 33 [])⟩] [32, 33])
       (.seq (.region [⟨some 34, none, .faddr 2 (.t 2 [])⟩,
         ⟨some 35, none, .load none (.t 34 [2])⟩,
         ⟨some 36, none, .mv false (.t 5 [])⟩,
         ⟨some 37, none, .iaddr 3 (.t 35 []) (.t 36 [])⟩,
         ⟨some 38, none, .load (some 3) (.t 37 [])⟩,
         ⟨some 39, none, .faddr 2 (.t 3 [])⟩,
         ⟨some 40, none, .load none (.t 39 [3])⟩,
         ⟨some 41, none, .mv false (.t 5 [])⟩,
         ⟨some 42, none, .iaddr 3 (.t 40 []) (.t 41 [])⟩,
         ⟨some 43, none, .load (some 3) (.t 42 [])⟩,
         ⟨some 44, none, .call 177 [(.t 38 []), (.t 43 [])]⟩,
         ⟨some 45, none, .un .not (.t 44 [])⟩] [5, 34, 35, 36, 37, 38, 39, 40, 41, 42, 43, 44])
       (.cond (.t 45 [])
        (.seq (.region [⟨some 4, none, .take false (.c (.bool false))⟩] [2, 3, 30, 31, 45])
        .ret)
        .skip))))
     (.region [⟨some 46, none, .bin .add (.t 31 []) (.c (I 1))⟩,
      ⟨some 31, none, .mv false (.t 46 [])⟩] [45, 46]))))))))
  (.seq (.region [⟨some 4, none, .take false (.c (.bool true))⟩] [2, 3, 30, 31, 32])
  .ret)))),
  [(4, none)], [(false, .deep)]⟩

def a_impl_EqualValue : AFunc := ⟨[true, true], 38,
  (.seq (.region [⟨some 2, none, .box false (.t 0 [])⟩,
    ⟨some 3, none, .box false (.t 1 [])⟩,
    ⟨some 4, none, .take false (.c (.bool false))⟩] [0, 1, 4])
  (.seq (.region [⟨some 5, none, .faddr 0 (.t 2 [])⟩,
    ⟨some 6, none, .load none (.t 5 [2])⟩,
    ⟨some 7, none, .faddr 0 (.t 3 [])⟩,
    ⟨some 8, none, .load none (.t 7 [3])⟩,
    ⟨some 9, none, .bin .eql (.t 6 []) (.t 8 [])⟩,
    ⟨some 10, none, .mv false (.t 9 [])⟩,
    ⟨some 11, some (10, true), .faddr 1 (.t 2 [])⟩,
    ⟨some 12, some (10, true), .load none (.t 11 [2])⟩,
    ⟨some 13, some (10, true), .faddr 1 (.t 3 [])⟩,
    ⟨some 14, some (10, true), .load none (.t 13 [3])⟩,
    ⟨some 15, some (10, true), .bin .eql (.t 12 []) (.t 14 [])⟩,
    ⟨some 16, none, .pick (.t 10 []) (.t 15 []) (.c (.bool false))⟩,
    ⟨some 17, none, .mv false (.t 16 [])⟩,
    ⟨some 18, some (17, true), .faddr 2 (.t 2 [])⟩,
    ⟨some 19, some (17, true), .load none (.t 18 [2])⟩,
    ⟨some 20, some (17, true), .faddr 2 (.t 3 [])⟩,
    ⟨some 21, some (17, true), .load none (.t 20 [3])⟩,
    ⟨some 22, some (17, true), .bin .eql (.t 19 []) (.t 21 [])⟩,
    ⟨some 23, none, .pick (.t 17 []) (.t 22 []) (.c (.bool false))⟩,
    ⟨some 24, none, .mv false (.t 23 [])⟩,
    ⟨some 25, some (24, true), .faddr 3 (.t 2 [])⟩,
    ⟨some 26, some (24, true), .load none (.t 25 [2])⟩,
    ⟨some 27, some (24, true), .faddr 3 (.t 3 [])⟩,
    ⟨some 28, some (24, true), .load none (.t 27 [3])⟩,
    ⟨some 29, some (24, true), .call 210 [(.t 26 []), (.t 28 [])]⟩,
    ⟨some 30, none, .pick (.t 24 []) (.t 29 []) (.c (.bool false))⟩,
    ⟨some 31, none, .mv false (.t 30 [])⟩,
    ⟨some 32, some (31, true), .faddr 4 (.t 2 [])⟩,
    ⟨some 33, some (31, true), .load none (.t 32 [2])⟩,
    ⟨some 34, some (31, true), .faddr 4 (.t 3 [])⟩,
    ⟨some 35, some (31, true), .load none (.t 34 [3])⟩,
    ⟨some 36, some (31, true), .call 211 [(.t 33 []), (.t 35 [])]⟩,
    ⟨some 37, none, .pick (.t 31 []) (.t 36 []) (.c (.bool false))⟩,
    ⟨some 4, none, .take false (.t 37 [])⟩] [2, 3, 6, 8, 9, 10, 12, 14, 15, 16, 17, 19, 21, 22, 23, 24, 26, 28, 29, 30, 31, 33, 35, 36, 37])
  .ret)),
  [(4, none)], [(false, .deep)]⟩

def a_impl_sameEdits : AFunc := ⟨[false, false], 62,
  (.seq (.region [⟨some 4, none, .take false (.c (.bool false))⟩] [4])
  (.seq (.seq (.region [⟨some 8, none, .mv false (.t 0 [])⟩,
     ⟨some 9, none, .len (.t 8 [])⟩,
     ⟨some 10, none, .mv false (.t 1 [])⟩,
     ⟨some 11, none, .len (.t 10 [])⟩,
     ⟨some 12, none, .bin .neq (.t 9 []) (.t 11 [])⟩] [8, 9, 10, 11])
   (.cond (.t 12 [])
    (.seq (.region [⟨some 4, none, .take false (.c (.bool false))⟩] [0, 1, 12])
    .ret)
    .skip))
  (.seq (.seq (.region [⟨some 13, none, .mv false (.t 0 [])⟩,
     ⟨some 14, none, .len (.t 13 [])⟩,
     ⟨some 15, none, .take false (.c (I 0))⟩] [0, 12])
   (.block 0 (.pre [.kill [4, 5, 6, 7, 16, 17, 18, 19, 20, 21, 22, 23, 24, 25, 26, 27, 28, 29, 30, 31, 32, 33, 34, 35, 36, 37, 38, 39, 40, 41, 42, 43, 44, 45, 46, 47, 48, 49, 50, 51, 52, 53, 54, 55, 56, 57, 58, 59, 60, 61]] (.loop (.seq (.region [⟨some 16, none, .bin .lss (.t 15 []) (.t 14 [])⟩] [])
     (.seq (.cond (.t 16 [])
       .skip
       (.exit 0))
     (.seq (.block 1 (.seq (.region [⟨some 17, none, .mv false (.t 15 [])⟩,
         ⟨some 18, none, .iaddr 8 (.t 13 []) (.t 15 [])⟩,
         ⟨some 19, none, .load (some 8) (.t 18 [])⟩,
         ⟨some 6, none, .alloc false [I0, (Z 3), I0, I0, S0, (Z 1), (Z 5), I0] [.deep, .deep, .deep, .deep, .deep, .deep, .deep, .deep]⟩,
         ⟨some 5, none, .take false (.t 17 [])⟩,
         ⟨none, none, .store 8 (.t 6 [6]) (.t 19 [])⟩] [16, 17, 18, 19])
       (.seq (.region [⟨some 20, none, .mv false (.t 1 [])⟩,
         ⟨some 21, none, .mv false (.t 5 [])⟩,
         ⟨some 22, none, .iaddr 8 (.t 20 []) (.t 21 [])⟩,
         ⟨some 23, none, .load (some 8) (.t 22 [])⟩,
         ⟨some 7, none, .alloc false [I0, (Z 3), I0, I0, S0, (Z 1), (Z 5), I0] [.deep, .deep, .deep, .deep, .deep, .deep, .deep, .deep]⟩,
         ⟨none, none, .store 8 (.t 7 [7]) (.t 23 [])⟩] [5, 20, 21, 22, 23])
       (.seq (.region [⟨some 24, none, .faddr 0 (.t 6 [])⟩,
         ⟨some 25, none, .load none (.t 24 [6])⟩,
         ⟨some 26, none, .faddr 0 (.t 7 [])⟩,
         ⟨some 27, none, .load none (.t 26 [7])⟩,
         ⟨some 28, none, .bin .neq (.t 25 []) (.t 27 [])⟩,
         ⟨some 29, none, .mv false (.t 28 [])⟩,
         ⟨some 30, some (29, false), .faddr 7 (.t 6 [])⟩,
         ⟨some 31, some (29, false), .load none (.t 30 [6])⟩,
         ⟨some 32, some (29, false), .faddr 7 (.t 7 [])⟩,
         ⟨some 33, some (29, false), .load none (.t 32 [7])⟩,
         ⟨some 34, some (29, false), .bin .neq (.t 31 []) (.t 33 [])⟩,
         ⟨some 35, none, .pick (.t 29 []) (.c (.bool true)) (.t 34 [])⟩,
         ⟨some 36, none, .mv false (.t 35 [])⟩,
         ⟨some 37, some (36, false), .faddr 1 (.t 6 [])⟩,
         ⟨some 38, some (36, false), .load none (.t 37 [6])⟩,
         ⟨some 39, some (36, false), .len (.t 38 [])⟩,
         ⟨some 40, some (36, false), .faddr 1 (.t 7 [])⟩,
         ⟨some 41, some (36, false), .load none (.t 40 [7])⟩,
         ⟨some 42, some (36, false), .len (.t 41 [])⟩,
         ⟨some 43, some (36, false), .bin .neq (.t 39 []) (.t 42 [])⟩,
         ⟨some 44, none, .pick (.t 36 []) (.c (.bool true)) (.t 43 [])⟩,
         ⟨some 45, none, .mv false (.t 44 [])⟩,
         ⟨some 46, some (45, false), .faddr 1 (.t 6 [])⟩,
         ⟨some 47, some (45, false), .load none (.t 46 [6])⟩,
         ⟨some 48, some (45, false), .faddr 1 (.t 7 [])⟩,
         ⟨some 49, some (45, false), .load none (.t 48 [7])⟩,
         ⟨some 50, some (45, false), .call 14 [(.t 47 []), (.t 49 [])]⟩,
         ⟨some 51, some (45, false), .un .not (.t 50 [])⟩,
         ⟨some 52, none, .pick (.t 45 []) (.c (.bool true)) (.t 51 [])⟩,
         ⟨some 53, none, .mv false (.t 52 [])⟩,
         ⟨some 54, some (53, false), .faddr 2 (.t 6 [])⟩,
         ⟨some 55, some (53, false), .load (some 5) (.t 54 [6])⟩,
         ⟨some 56, some (53, false), .faddr 2 (.t 7 [])⟩,
         ⟨some 57, some (53, false), .load (some 5) (.t 56 [7])⟩,
         ⟨some 58, some (53, false), .call 178 [(.t 55 []), (.t 57 [])]⟩,
         ⟨some 59, some (53, false), .un .not (.t 58 [])⟩,
         ⟨some 60, none, .pick (.t 53 []) (.c (.bool true)) (.t 59 [])⟩] [6, 7, 25, 27, 28, 29, 31, 33, 34, 35, 36, 38, 39, 41, 42, 43, 44, 45, 47, 49, 50, 51, 52, 53, 55, 57, 58, 59])
       (.cond (.t 60 [])
        (.seq (.region [⟨some 4, none, .take false (.c (.bool false))⟩] [1, 13, 14, 15, 60])
        .ret)
        .skip)))))
     (.region [⟨some 61, none, .bin .add (.t 15 []) (.c (I 1))⟩,
      ⟨some 15, none, .mv false (.t 61 [])⟩] [60, 61]))))))))
  (.seq (.region [⟨some 4, none, .take false (.c (.bool true))⟩] [1, 13, 14, 15, 16])
  .ret)))),
  [(4, none)], [(false, .deep)]⟩

def a_laws_eqType : AFunc := ⟨[true, true], 22,
  (.seq (.region [⟨some 2, none, .box false (.t 0 [])⟩,
    ⟨some 3, none, .box false (.t 1 [])⟩,
    ⟨some 4, none, .take false (.c (.bool false))⟩] [0, 1, 4])
  (.seq (.seq (.region [⟨some 5, none, .faddr 0 (.t 2 [])⟩,
     ⟨some 6, none, .load none (.t 5 [2])⟩,
     ⟨some 7, none, .faddr 0 (.t 3 [])⟩,
     ⟨some 8, none, .load none (.t 7 [3])⟩,
     ⟨some 9, none, .bin .neq (.t 6 []) (.t 8 [])⟩] [5, 6, 7, 8])
   (.cond (.t 9 [])
    (.seq (.region [⟨some 4, none, .take false (.c (.bool false))⟩] [2, 3, 9])
    .ret)
    .skip))
  (.seq (.seq (.region [⟨some 10, none, .faddr 1 (.t 2 [])⟩,
     ⟨some 11, none, .load none (.t 10 [2])⟩,
     ⟨some 12, none, .faddr 1 (.t 3 [])⟩,
     ⟨some 13, none, .load none (.t 12 [3])⟩,
     ⟨some 14, none, .call 103 [(.t 11 []), (.t 13 [])]⟩,
     ⟨some 15, none, .un .not (.t 14 [])⟩] [9, 10, 11, 12, 13, 14])
   (.cond (.t 15 [])
    (.seq (.region [⟨some 4, none, .take false (.c (.bool false))⟩] [2, 3, 15])
    .ret)
    .skip))
  (.seq (.seq (.region [⟨some 16, none, .faddr 2 (.t 2 [])⟩,
     ⟨some 17, none, .load none (.t 16 [2])⟩,
     ⟨some 18, none, .faddr 2 (.t 3 [])⟩,
     ⟨some 19, none, .load none (.t 18 [3])⟩,
     ⟨some 20, none, .call 192 [(.t 17 []), (.t 19 [])]⟩,
     ⟨some 21, none, .un .not (.t 20 [])⟩] [2, 3, 15, 17, 19, 20])
   (.cond (.t 21 [])
    (.seq (.region [⟨some 4, none, .take false (.c (.bool false))⟩] [21])
    .ret)
    .skip))
  (.seq (.region [⟨some 4, none, .take false (.c (.bool true))⟩] [21])
  .ret))))),
  [(4, none)], [(false, .deep)]⟩

def a_laws_eqValue : AFunc := ⟨[true, true], 32,
  (.seq (.region [⟨some 2, none, .box false (.t 0 [])⟩,
    ⟨some 3, none, .box false (.t 1 [])⟩,
    ⟨some 4, none, .take false (.c (.bool false))⟩] [0, 1, 4])
  (.seq (.seq (.region [⟨some 5, none, .faddr 0 (.t 2 [])⟩,
     ⟨some 6, none, .load none (.t 5 [2])⟩,
     ⟨some 7, none, .faddr 0 (.t 3 [])⟩,
     ⟨some 8, none, .load none (.t 7 [3])⟩,
     ⟨some 9, none, .bin .neq (.t 6 []) (.t 8 [])⟩] [5, 6, 7, 8])
   (.cond (.t 9 [])
    (.seq (.region [⟨some 4, none, .take false (.c (.bool false))⟩] [2, 3, 9])
    .ret)
    .skip))
  (.seq (.seq (.region [⟨some 10, none, .faddr 1 (.t 2 [])⟩,
     ⟨some 11, none, .load none (.t 10 [2])⟩,
     ⟨some 12, none, .faddr 1 (.t 3 [])⟩,
     ⟨some 13, none, .load none (.t 12 [3])⟩,
     ⟨some 14, none, .bin .neq (.t 11 []) (.t 13 [])⟩] [9, 10, 11, 12, 13])
   (.cond (.t 14 [])
    (.seq (.region [⟨some 4, none, .take false (.c (.bool false))⟩] [2, 3, 14])
    .ret)
    .skip))
  (.seq (.seq (.region [⟨some 15, none, .faddr 2 (.t 2 [])⟩,
     ⟨some 16, none, .load none (.t 15 [2])⟩,
     ⟨some 17, none, .faddr 2 (.t 3 [])⟩,
     ⟨some 18, none, .load none (.t 17 [3])⟩,
     ⟨some 19, none, .bin .neq (.t 16 []) (.t 18 [])⟩] [14, 15, 16, 17, 18])
   (.cond (.t 19 [])
    (.seq (.region [⟨some 4, none, .take false (.c (.bool false))⟩] [2, 3, 19])
    .ret)
    .skip))
  (.seq (.seq (.region [⟨some 20, none, .faddr 3 (.t 2 [])⟩,
     ⟨some 21, none, .load none (.t 20 [2])⟩,
     ⟨some 22, none, .faddr 3 (.t 3 [])⟩,
     ⟨some 23, none, .load none (.t 22 [3])⟩,
     ⟨some 24, none, .call 103 [(.t 21 []), (.t 23 [])]⟩,
     ⟨some 25, none, .un .not (.t 24 [])⟩] [19, 20, 21, 22, 23, 24])
   (.cond (.t 25 [])
    (.seq (.region [⟨some 4, none, .take false (.c (.bool false))⟩] [2, 3, 25])
    .ret)
    .skip))
  (.seq (.seq (.region [⟨some 26, none, .faddr 4 (.t 2 [])⟩,
     ⟨some 27, none, .load none (.t 26 [2])⟩,
     ⟨some 28, none, .faddr 4 (.t 3 [])⟩,
     ⟨some 29, none, .load none (.t 28 [3])⟩,
     ⟨some 30, none, .call 104 [(.t 27 []), (.t 29 [])]⟩,
     ⟨some 31, none, .un .not (.t 30 [])⟩] [2, 3, 25, 27, 29, 30])
   (.cond (.t 31 [])
    (.seq (.region [⟨some 4, none, .take false (.c (.bool false))⟩] [31])
    .ret)
    .skip))
  (.seq (.region [⟨some 4, none, .take false (.c (.bool true))⟩] [31])
  .ret))))))),
  [(4, none)], [(false, .deep)]⟩

def a_laws_eqEditS : AFunc := ⟨[false, false], 27,
  (.seq (.region [⟨some 4, none, .take false (.c (.bool false))⟩] [4])
  (.seq (.seq (.region [⟨some 6, none, .mv false (.t 0 [])⟩,
     ⟨some 7, none, .len (.t 6 [])⟩,
     ⟨some 8, none, .mv false (.t 1 [])⟩,
     ⟨some 9, none, .len (.t 8 [])⟩,
     ⟨some 10, none, .bin .neq (.t 7 []) (.t 9 [])⟩] [6, 7, 8, 9])
   (.cond (.t 10 [])
    (.seq (.region [⟨some 4, none, .take false (.c (.bool false))⟩] [0, 1, 10])
    .ret)
    .skip))
  (.seq (.seq (.region [⟨some 5, none, .take false (.c (I 0))⟩] [10])
   (.block 0 (.pre [.kill [4, 11, 12, 13, 14, 15, 16, 17, 18, 19, 20, 21, 22, 23, 24, 25, 26]] (.loop (.seq (.seq (.region [⟨some 11, none, .mv false (.t 5 [])⟩,
        ⟨some 12, none, .mv false (.t 0 [])⟩,
        ⟨some 13, none, .len (.t 12 [])⟩,
        ⟨some 14, none, .bin .lss (.t 11 []) (.t 13 [])⟩] [11, 12, 13])
      (.cond (.t 14 [])
       .skip
       (.exit 0)))
     (.seq (.block 1 (.seq (.region [⟨some 17, none, .mv false (.t 0 [])⟩,
         ⟨some 18, none, .mv false (.t 5 [])⟩,
         ⟨some 19, none, .iaddr 8 (.t 17 []) (.t 18 [])⟩,
         ⟨some 20, none, .load (some 8) (.t 19 [])⟩,
         ⟨some 21, none, .mv false (.t 1 [])⟩,
         ⟨some 22, none, .mv false (.t 5 [])⟩,
         ⟨some 23, none, .iaddr 8 (.t 21 []) (.t 22 [])⟩,
         ⟨some 24, none, .load (some 8) (.t 23 [])⟩,
         ⟨some 25, none, .call 75 [(.t 20 []), (.t 24 [])]⟩,
         ⟨some 26, none, .un .not (.t 25 [])⟩] [14, 17, 18, 19, 20, 21, 22, 23, 24, 25])
       (.cond (.t 26 [])
        (.seq (.region [⟨some 4, none, .take false (.c (.bool false))⟩] [0, 1, 5, 26])
        .ret)
        .skip)))
     (.region [⟨some 15, none, .mv false (.t 5 [])⟩,
      ⟨some 16, none, .bin .add (.t 15 []) (.c (I 1))⟩,
      ⟨some 5, none, .take false (.t 16 [])⟩] [15, 16, 26])))))))
  (.seq (.region [⟨some 4, none, .take false (.c (.bool true))⟩] [0, 1, 5, 14])
  .ret)))),
  [(4, none)], [(false, .deep)]⟩

def a_laws_szStringS : AFunc := ⟨[false, false], 28,
  (.seq (.region [⟨some 4, none, .take false (.c (I 0))⟩] [4])
  (.seq (.region [⟨some 6, none, .mv false (.t 1 [])⟩,
    ⟨some 7, none, .mv false (.t 0 [])⟩,
    ⟨some 8, none, .len (.t 7 [])⟩,
    ⟨some 9, none, .bin .sub (.t 6 []) (.t 8 [])⟩,
    ⟨some 1, none, .take false (.t 9 [])⟩] [6, 7, 8, 9])
  (.seq (.seq (.region [⟨some 10, none, .mv false (.t 1 [])⟩,
     ⟨some 11, none, .bin .lss (.t 10 []) (.c (I 0))⟩] [10])
   (.cond (.t 11 [])
    (.seq (.region [⟨some 4, none, .take false (.c (I (-1)))⟩] [0, 1, 11])
    .ret)
    .skip))
  (.seq (.seq (.region [⟨some 5, none, .take false (.c (I 0))⟩] [11])
   (.block 0 (.pre [.kill [4, 12, 13, 14, 15, 16, 17, 18, 19, 20, 21, 22, 23, 24, 25, 26]] (.loop (.seq (.seq (.region [⟨some 12, none, .mv false (.t 5 [])⟩,
        ⟨some 13, none, .mv false (.t 0 [])⟩,
        ⟨some 14, none, .len (.t 13 [])⟩,
        ⟨some 15, none, .bin .lss (.t 12 []) (.t 14 [])⟩] [12, 13, 14])
      (.cond (.t 15 [])
       .skip
       (.exit 0)))
     (.seq (.block 1 (.seq (.region [⟨some 18, none, .mv false (.t 1 [])⟩,
         ⟨some 19, none, .mv false (.t 0 [])⟩,
         ⟨some 20, none, .mv false (.t 5 [])⟩,
         ⟨some 21, none, .iaddr 1 (.t 19 []) (.t 20 [])⟩,
         ⟨some 22, none, .load none (.t 21 [])⟩,
         ⟨some 23, none, .lenS (.t 22 [])⟩,
         ⟨some 24, none, .bin .sub (.t 18 []) (.t 23 [])⟩,
         ⟨some 1, none, .take false (.t 24 [])⟩] [15, 18, 19, 20, 21, 22, 23, 24])
       (.seq (.region [⟨some 25, none, .mv false (.t 1 [])⟩,
         ⟨some 26, none, .bin .lss (.t 25 []) (.c (I 0))⟩] [25])
       (.cond (.t 26 [])
        (.seq (.region [⟨some 4, none, .take false (.c (I (-1)))⟩] [0, 1, 5, 26])
        .ret)
        .skip))))
     (.region [⟨some 16, none, .mv false (.t 5 [])⟩,
      ⟨some 17, none, .bin .add (.t 16 []) (.c (I 1))⟩,
      ⟨some 5, none, .take false (.t 17 [])⟩] [16, 17, 26])))))))
  (.seq (.region [⟨some 27, none, .mv false (.t 1 [])⟩,
    ⟨some 4, none, .take false (.t 27 [])⟩] [0, 1, 5, 15, 27])
  .ret))))),
  [(4, none)], [(false, .deep)]⟩

def a_laws_szTypeS : AFunc := ⟨[false, false], 27,
  (.seq (.region [⟨some 4, none, .take false (.c (I 0))⟩] [4])
  (.seq (.region [⟨some 6, none, .mv false (.t 1 [])⟩,
    ⟨some 7, none, .mv false (.t 0 [])⟩,
    ⟨some 8, none, .len (.t 7 [])⟩,
    ⟨some 9, none, .bin .sub (.t 6 []) (.t 8 [])⟩,
    ⟨some 1, none, .take false (.t 9 [])⟩] [6, 7, 8, 9])
  (.seq (.seq (.region [⟨some 10, none, .mv false (.t 1 [])⟩,
     ⟨some 11, none, .bin .lss (.t 10 []) (.c (I 0))⟩] [10])
   (.cond (.t 11 [])
    (.seq (.region [⟨some 4, none, .take false (.c (I (-1)))⟩] [0, 1, 11])
    .ret)
    .skip))
  (.seq (.seq (.region [⟨some 5, none, .take false (.c (I 0))⟩] [11])
   (.block 0 (.pre [.kill [4, 12, 13, 14, 15, 16, 17, 18, 19, 20, 21, 22, 23, 24, 25]] (.loop (.seq (.seq (.region [⟨some 12, none, .mv false (.t 5 [])⟩,
        ⟨some 13, none, .mv false (.t 0 [])⟩,
        ⟨some 14, none, .len (.t 13 [])⟩,
        ⟨some 15, none, .bin .lss (.t 12 []) (.t 14 [])⟩] [12, 13, 14])
      (.cond (.t 15 [])
       .skip
       (.exit 0)))
     (.seq (.block 1 (.seq (.region [⟨some 18, none, .mv false (.t 0 [])⟩,
         ⟨some 19, none, .mv false (.t 5 [])⟩,
         ⟨some 20, none, .iaddr 3 (.t 18 []) (.t 19 [])⟩,
         ⟨some 21, none, .load (some 3) (.t 20 [])⟩,
         ⟨some 22, none, .mv false (.t 1 [])⟩,
         ⟨some 23, none, .call 157 [(.t 21 []), (.t 22 [])]⟩,
         ⟨some 1, none, .take false (.t 23 [])⟩] [15, 18, 19, 20, 21, 22, 23])
       (.seq (.region [⟨some 24, none, .mv false (.t 1 [])⟩,
         ⟨some 25, none, .bin .lss (.t 24 []) (.c (I 0))⟩] [24])
       (.cond (.t 25 [])
        (.seq (.region [⟨some 4, none, .take false (.c (I (-1)))⟩] [0, 1, 5, 25])
        .ret)
        .skip))))
     (.region [⟨some 16, none, .mv false (.t 5 [])⟩,
      ⟨some 17, none, .bin .add (.t 16 []) (.c (I 1))⟩,
      ⟨some 5, none, .take false (.t 17 [])⟩] [16, 17, 25])))))))
  (.seq (.region [⟨some 26, none, .mv false (.t 1 [])⟩,
    ⟨some 4, none, .take false (.t 26 [])⟩] [0, 1, 5, 15, 26])
  .ret))))),
  [(4, none)], [(false, .deep)]⟩

def a_laws_szValueS : AFunc := ⟨[false, false], 27,
  (.seq (.region [⟨some 4, none, .take false (.c (I 0))⟩] [4])
  (.seq (.region [⟨some 6, none, .mv false (.t 1 [])⟩,
    ⟨some 7, none, .mv false (.t 0 [])⟩,
    ⟨some 8, none, .len (.t 7 [])⟩,
    ⟨some 9, none, .bin .sub (.t 6 []) (.t 8 [])⟩,
    ⟨some 1, none, .take false (.t 9 [])⟩] [6, 7, 8, 9])
  (.seq (.seq (.region [⟨some 10, none, .mv false (.t 1 [])⟩,
     ⟨some 11, none, .bin .lss (.t 10 []) (.c (I 0))⟩] [10])
   (.cond (.t 11 [])
    (.seq (.region [⟨some 4, none, .take false (.c (I (-1)))⟩] [0, 1, 11])
    .ret)
    .skip))
  (.seq (.seq (.region [⟨some 5, none, .take false (.c (I 0))⟩] [11])
   (.block 0 (.pre [.kill [4, 12, 13, 14, 15, 16, 17, 18, 19, 20, 21, 22, 23, 24, 25]] (.loop (.seq (.seq (.region [⟨some 12, none, .mv false (.t 5 [])⟩,
        ⟨some 13, none, .mv false (.t 0 [])⟩,
        ⟨some 14, none, .len (.t 13 [])⟩,
        ⟨some 15, none, .bin .lss (.t 12 []) (.t 14 [])⟩] [12, 13, 14])
      (.cond (.t 15 [])
       .skip
       (.exit 0)))
     (.seq (.block 1 (.seq (.region [⟨some 18, none, .mv false (.t 0 [])⟩,
         ⟨some 19, none, .mv false (.t 5 [])⟩,
         ⟨some 20, none, .iaddr 5 (.t 18 []) (.t 19 [])⟩,
         ⟨some 21, none, .load (some 5) (.t 20 [])⟩,
         ⟨some 22, none, .mv false (.t 1 [])⟩,
         ⟨some 23, none, .call 76 [(.t 21 []), (.t 22 [])]⟩,
         ⟨some 1, none, .take false (.t 23 [])⟩] [15, 18, 19, 20, 21, 22, 23])
       (.seq (.region [⟨some 24, none, .mv false (.t 1 [])⟩,
         ⟨some 25, none, .bin .lss (.t 24 []) (.c (I 0))⟩] [24])
       (.cond (.t 25 [])
        (.seq (.region [⟨some 4, none, .take false (.c (I (-1)))⟩] [0, 1, 5, 25])
        .ret)
        .skip))))
     (.region [⟨some 16, none, .mv false (.t 5 [])⟩,
      ⟨some 17, none, .bin .add (.t 16 []) (.c (I 1))⟩,
      ⟨some 5, none, .take false (.t 17 [])⟩] [16, 17, 25])))))))
  (.seq (.region [⟨some 26, none, .mv false (.t 1 [])⟩,
    ⟨some 4, none, .take false (.t 26 [])⟩] [0, 1, 5, 15, 26])
  .ret))))),
  [(4, none)], [(false, .deep)]⟩

def a_laws_szEdit : AFunc := ⟨[true, false], 18,
  (.seq (.region [⟨some 2, none, .box false (.t 0 [])⟩,
    ⟨some 4, none, .take false (.c (I 0))⟩] [0, 4])
  (.seq (.region [⟨some 5, none, .faddr 1 (.t 2 [])⟩,
    ⟨some 6, none, .load none (.t 5 [2])⟩,
    ⟨some 7, none, .mv false (.t 1 [])⟩,
    ⟨some 8, none, .call 11 [(.t 6 []), (.t 7 [])]⟩,
    ⟨some 1, none, .take false (.t 8 [])⟩] [5, 6, 7, 8])
  (.seq (.seq (.region [⟨some 9, none, .mv false (.t 1 [])⟩,
     ⟨some 10, none, .bin .lss (.t 9 []) (.c (I 0))⟩] [9])
   (.cond (.t 10 [])
    (.seq (.region [⟨some 4, none, .take false (.c (I (-1)))⟩] [1, 2, 10])
    .ret)
    .skip))
  (.seq (.region [⟨some 11, none, .faddr 2 (.t 2 [])⟩,
    ⟨some 12, none, .load (some 5) (.t 11 [2])⟩,
    ⟨some 13, none, .mv false (.t 1 [])⟩,
    ⟨some 14, none, .call 76 [(.t 12 []), (.t 13 [])]⟩,
    ⟨some 1, none, .take false (.t 14 [])⟩] [2, 10, 12, 13, 14])
  (.seq (.seq (.region [⟨some 15, none, .mv false (.t 1 [])⟩,
     ⟨some 16, none, .bin .lss (.t 15 []) (.c (I 0))⟩] [15])
   (.cond (.t 16 [])
    (.seq (.region [⟨some 4, none, .take false (.c (I (-1)))⟩] [1, 16])
    .ret)
    .skip))
  (.seq (.region [⟨some 17, none, .mv false (.t 1 [])⟩,
    ⟨some 4, none, .take false (.t 17 [])⟩] [1, 16, 17])
  .ret)))))),
  [(4, none)], [(false, .deep)]⟩

def a_laws_toStringS : AFunc := ⟨[false], 22,
  (.seq (.region [⟨some 2, none, .take false (.c (Z 1))⟩] [2])
  (.seq (.region [⟨some 5, none, .mv false (.t 0 [])⟩,
    ⟨some 6, none, .len (.t 5 [])⟩,
    ⟨some 7, none, .make .deep 1 [S0] (.t 6 [])⟩,
    ⟨some 3, none, .take false (.t 7 [])⟩] [5, 6, 7])
  (.seq (.seq (.region [⟨some 4, none, .take false (.c (I 0))⟩] [])
   (.block 0 (.pre [.kill [8, 9, 10, 11, 12, 13, 14, 15, 16, 17, 18, 19, 20]] (.loop (.seq (.seq (.region [⟨some 8, none, .mv false (.t 4 [])⟩,
        ⟨some 9, none, .mv false (.t 0 [])⟩,
        ⟨some 10, none, .len (.t 9 [])⟩,
        ⟨some 11, none, .bin .lss (.t 8 []) (.t 10 [])⟩] [8, 9, 10])
      (.cond (.t 11 [])
       .skip
       (.exit 0)))
     (.seq (.block 1 (.region [⟨some 14, none, .mv false (.t 3 [])⟩,
        ⟨some 15, none, .mv false (.t 4 [])⟩,
        ⟨some 16, none, .mv false (.t 0 [])⟩,
        ⟨some 17, none, .mv false (.t 4 [])⟩,
        ⟨some 18, none, .iaddr 1 (.t 16 []) (.t 17 [])⟩,
        ⟨some 19, none, .load none (.t 18 [])⟩,
        ⟨some 20, none, .iaddr 1 (.t 14 [3]) (.t 15 [])⟩,
        ⟨none, none, .store 1 (.t 20 [3]) (.t 19 [])⟩] [11, 14, 15, 16, 17, 18, 19]))
     (.region [⟨some 12, none, .mv false (.t 4 [])⟩,
      ⟨some 13, none, .bin .add (.t 12 []) (.c (I 1))⟩,
      ⟨some 4, none, .take false (.t 13 [])⟩] [12, 13])))))))
  (.seq (.region [⟨some 21, none, .mv false (.t 3 [])⟩,
    ⟨some 2, none, .take false (.t 21 [3])⟩] [0, 3, 4, 11, 21])
  .ret)))),
  [(2, none)], [(false, .deep)]⟩

def a_laws_toTypeS : AFunc := ⟨[false], 23,
  (.seq (.region [⟨some 2, none, .take false (.c (Z 3))⟩] [2])
  (.seq (.region [⟨some 5, none, .mv false (.t 0 [])⟩,
    ⟨some 6, none, .len (.t 5 [])⟩,
    ⟨some 7, none, .make .deep 3 [I0, (Z 1), (Z 3)] (.t 6 [])⟩,
    ⟨some 3, none, .take false (.t 7 [])⟩] [5, 6, 7])
  (.seq (.seq (.region [⟨some 4, none, .take false (.c (I 0))⟩] [])
   (.block 0 (.pre [.kill [8, 9, 10, 11, 12, 13, 14, 15, 16, 17, 18, 19, 20, 21]] (.loop (.seq (.seq (.region [⟨some 8, none, .mv false (.t 4 [])⟩,
        ⟨some 9, none, .mv false (.t 0 [])⟩,
        ⟨some 10, none, .len (.t 9 [])⟩,
        ⟨some 11, none, .bin .lss (.t 8 []) (.t 10 [])⟩] [8, 9, 10])
      (.cond (.t 11 [])
       .skip
       (.exit 0)))
     (.seq (.block 1 (.region [⟨some 14, none, .mv false (.t 3 [])⟩,
        ⟨some 15, none, .mv false (.t 4 [])⟩,
        ⟨some 16, none, .mv false (.t 0 [])⟩,
        ⟨some 17, none, .mv false (.t 4 [])⟩,
        ⟨some 18, none, .iaddr 3 (.t 16 []) (.t 17 [])⟩,
        ⟨some 19, none, .load (some 3) (.t 18 [])⟩,
        ⟨some 20, none, .call 159 [(.t 19 [])]⟩,
        ⟨some 21, none, .iaddr 3 (.t 14 [3]) (.t 15 [])⟩,
        ⟨none, none, .store 3 (.t 21 [3]) (.t 20 [])⟩] [11, 14, 15, 16, 17, 18, 19, 20]))
     (.region [⟨some 12, none, .mv false (.t 4 [])⟩,
      ⟨some 13, none, .bin .add (.t 12 []) (.c (I 1))⟩,
      ⟨some 4, none, .take false (.t 13 [])⟩] [12, 13])))))))
  (.seq (.region [⟨some 22, none, .mv false (.t 3 [])⟩,
    ⟨some 2, none, .take false (.t 22 [3])⟩] [0, 3, 4, 11, 22])
  .ret)))),
  [(2, none)], [(false, .deep)]⟩

def a_laws_toValueS : AFunc := ⟨[false], 23,
  (.seq (.region [⟨some 2, none, .take false (.c (Z 5))⟩] [2])
  (.seq (.region [⟨some 5, none, .mv false (.t 0 [])⟩,
    ⟨some 6, none, .len (.t 5 [])⟩,
    ⟨some 7, none, .make .deep 5 [I0, I0, S0, (Z 1), (Z 5)] (.t 6 [])⟩,
    ⟨some 3, none, .take false (.t 7 [])⟩] [5, 6, 7])
  (.seq (.seq (.region [⟨some 4, none, .take false (.c (I 0))⟩] [])
   (.block 0 (.pre [.kill [8, 9, 10, 11, 12, 13, 14, 15, 16, 17, 18, 19, 20, 21]] (.loop (.seq (.seq (.region [⟨some 8, none, .mv false (.t 4 [])⟩,
        ⟨some 9, none, .mv false (.t 0 [])⟩,
        ⟨some 10, none, .len (.t 9 [])⟩,
        ⟨some 11, none, .bin .lss (.t 8 []) (.t 10 [])⟩] [8, 9, 10])
      (.cond (.t 11 [])
       .skip
       (.exit 0)))
     (.seq (.block 1 (.region [⟨some 14, none, .mv false (.t 3 [])⟩,
        ⟨some 15, none, .mv false (.t 4 [])⟩,
        ⟨some 16, none, .mv false (.t 0 [])⟩,
        ⟨some 17, none, .mv false (.t 4 [])⟩,
        ⟨some 18, none, .iaddr 5 (.t 16 []) (.t 17 [])⟩,
        ⟨some 19, none, .load (some 5) (.t 18 [])⟩,
        ⟨some 20, none, .call 78 [(.t 19 [])]⟩,
        ⟨some 21, none, .iaddr 5 (.t 14 [3]) (.t 15 [])⟩,
        ⟨none, none, .store 5 (.t 21 [3]) (.t 20 [])⟩] [11, 14, 15, 16, 17, 18, 19, 20]))
     (.region [⟨some 12, none, .mv false (.t 4 [])⟩,
      ⟨some 13, none, .bin .add (.t 12 []) (.c (I 1))⟩,
      ⟨some 4, none, .take false (.t 13 [])⟩] [12, 13])))))))
  (.seq (.region [⟨some 22, none, .mv false (.t 3 [])⟩,
    ⟨some 2, none, .take false (.t 22 [3])⟩] [0, 3, 4, 11, 22])
  .ret)))),
  [(2, none)], [(false, .deep)]⟩

def a_laws_toEdit : AFunc := ⟨[true], 19,
  (.seq (.region [⟨some 1, none, .box false (.t 0 [])⟩,
    ⟨some 2, none, .alloc false [I0, (Z 3), I0, I0, S0, (Z 1), (Z 5), I0] [.deep, .deep, .deep, .deep, .deep, .deep, .deep, .deep]⟩] [0])
  (.seq (.region [⟨some 3, none, .alloc false [I0, (Z 3), I0, I0, S0, (Z 1), (Z 5), I0] [.deep, .deep, .deep, .deep, .deep, .deep, .deep, .deep]⟩] [])
  (.seq (.region [⟨some 4, none, .faddr 0 (.t 1 [])⟩,
    ⟨some 5, none, .load none (.t 4 [1])⟩,
    ⟨some 6, none, .faddr 0 (.t 3 [])⟩,
    ⟨none, none, .store 1 (.t 6 [3]) (.t 5 [])⟩] [4, 5, 6])
  (.seq (.region [⟨some 7, none, .faddr 1 (.t 1 [])⟩,
    ⟨some 8, none, .load none (.t 7 [1])⟩,
    ⟨some 9, none, .call 13 [(.t 8 [])]⟩,
    ⟨some 10, none, .faddr 1 (.t 3 [])⟩,
    ⟨none, none, .store 1 (.t 10 [3]) (.t 9 [])⟩] [7, 8, 9, 10])
  (.seq (.region [⟨some 11, none, .faddr 2 (.t 1 [])⟩,
    ⟨some 12, none, .load (some 5) (.t 11 [1])⟩,
    ⟨some 13, none, .call 78 [(.t 12 [])]⟩,
    ⟨some 14, none, .faddr 2 (.t 3 [])⟩,
    ⟨none, none, .store 5 (.t 14 [3]) (.t 13 [])⟩] [11, 12, 13, 14])
  (.seq (.region [⟨some 15, none, .faddr 7 (.t 1 [])⟩,
    ⟨some 16, none, .load none (.t 15 [1])⟩,
    ⟨some 17, none, .faddr 7 (.t 3 [])⟩,
    ⟨none, none, .store 1 (.t 17 [3]) (.t 16 [])⟩] [1, 16, 17])
  (.seq (.region [⟨some 18, none, .load (some 8) (.t 3 [3])⟩,
    ⟨none, none, .store 8 (.t 2 [2]) (.t 18 [3])⟩] [3, 18])
  .ret))))))),
  [(2, some 8)], [(true, .deep)]⟩

def a_spec_l3Texts : AFunc := ⟨[false, false], 26,
  (.seq (.region [⟨some 4, none, .take false (.c (.bool false))⟩] [4])
  (.seq (.seq (.region [⟨some 6, none, .mv false (.t 0 [])⟩,
     ⟨some 7, none, .len (.t 6 [])⟩,
     ⟨some 8, none, .mv false (.t 1 [])⟩,
     ⟨some 9, none, .len (.t 8 [])⟩,
     ⟨some 10, none, .bin .neq (.t 7 []) (.t 9 [])⟩] [6, 7, 8, 9])
   (.cond (.t 10 [])
    (.seq (.region [⟨some 4, none, .take false (.c (.bool false))⟩] [0, 1, 10])
    .ret)
    .skip))
  (.seq (.seq (.region [⟨some 5, none, .take false (.c (I 0))⟩] [10])
   (.block 0 (.pre [.kill [4, 11, 12, 13, 14, 15, 16, 17, 18, 19, 20, 21, 22, 23, 24, 25]] (.loop (.seq (.seq (.region [⟨some 11, none, .mv false (.t 5 [])⟩,
        ⟨some 12, none, .mv false (.t 0 [])⟩,
        ⟨some 13, none, .len (.t 12 [])⟩,
        ⟨some 14, none, .bin .lss (.t 11 []) (.t 13 [])⟩] [11, 12, 13])
      (.cond (.t 14 [])
       .skip
       (.exit 0)))
     (.seq (.block 1 (.seq (.region [⟨some 17, none, .mv false (.t 0 [])⟩,
         ⟨some 18, none, .mv false (.t 5 [])⟩,
         ⟨some 19, none, .iaddr 1 (.t 17 []) (.t 18 [])⟩,
         ⟨some 20, none, .load none (.t 19 [])⟩,
         ⟨some 21, none, .mv false (.t 1 [])⟩,
         ⟨some 22, none, .mv false (.t 5 [])⟩,
         ⟨some 23, none, .iaddr 1 (.t 21 []) (.t 22 [])⟩,
         ⟨some 24, none, .load none (.t 23 [])⟩,
         ⟨some 25, none, .bin .neq (.t 20 []) (.t 24 [])⟩] [14, 17, 18, 19, 20, 21, 22, 23, 24])
       (.cond (.t 25 [])
        (.seq (.region [⟨some 4, none, .take false (.c (.bool false))⟩] [0, 1, 5, 25])
        .ret)
        .skip)))
     (.region [⟨some 15, none, .mv false (.t 5 [])⟩,
      ⟨some 16, none, .bin .add (.t 15 []) (.c (I 1))⟩,
      ⟨some 5, none, .take false (.t 16 [])⟩] [15, 16, 25])))))))
  (.seq (.region [⟨some 4, none, .take false (.c (.bool true))⟩] [0, 1, 5, 14])
  .ret)))),
  [(4, none)], [(false, .deep)]⟩

def a_spec_l19Same : AFunc := ⟨[true, true], 40,
  (.seq (.region [⟨some 2, none, .box false (.t 0 [])⟩,
    ⟨some 3, none, .box false (.t 1 [])⟩,
    ⟨some 4, none, .take false (.c (.bool false))⟩] [0, 1, 4])
  (.seq (.region [⟨some 5, none, .faddr 0 (.t 2 [])⟩,
    ⟨some 6, none, .load none (.t 5 [2])⟩,
    ⟨some 7, none, .faddr 0 (.t 3 [])⟩,
    ⟨some 8, none, .load none (.t 7 [3])⟩,
    ⟨some 9, none, .bin .eql (.t 6 []) (.t 8 [])⟩,
    ⟨some 10, none, .mv false (.t 9 [])⟩,
    ⟨some 11, some (10, true), .faddr 7 (.t 2 [])⟩,
    ⟨some 12, some (10, true), .load none (.t 11 [2])⟩,
    ⟨some 13, some (10, true), .faddr 7 (.t 3 [])⟩,
    ⟨some 14, some (10, true), .load none (.t 13 [3])⟩,
    ⟨some 15, some (10, true), .bin .eql (.t 12 []) (.t 14 [])⟩,
    ⟨some 16, none, .pick (.t 10 []) (.t 15 []) (.c (.bool false))⟩,
    ⟨some 17, none, .mv false (.t 16 [])⟩,
    ⟨some 18, some (17, true), .faddr 1 (.t 2 [])⟩,
    ⟨some 19, some (17, true), .load none (.t 18 [2])⟩,
    ⟨some 20, some (17, true), .len (.t 19 [])⟩,
    ⟨some 21, some (17, true), .faddr 1 (.t 3 [])⟩,
    ⟨some 22, some (17, true), .load none (.t 21 [3])⟩,
    ⟨some 23, some (17, true), .len (.t 22 [])⟩,
    ⟨some 24, some (17, true), .bin .eql (.t 20 []) (.t 23 [])⟩,
    ⟨some 25, none, .pick (.t 17 []) (.t 24 []) (.c (.bool false))⟩,
    ⟨some 26, none, .mv false (.t 25 [])⟩,
    ⟨some 27, some (26, true), .faddr 1 (.t 2 [])⟩,
    ⟨some 28, some (26, true), .load none (.t 27 [2])⟩,
    ⟨some 29, some (26, true), .faddr 1 (.t 3 [])⟩,
    ⟨some 30, some (26, true), .load none (.t 29 [3])⟩,
    ⟨some 31, some (26, true), .call 12 [(.t 28 []), (.t 30 [])]⟩,
    ⟨some 32, none, .pick (.t 26 []) (.t 31 []) (.c (.bool false))⟩,
    ⟨some 33, none, .mv false (.t 32 [])⟩,
    ⟨some 34, some (33, true), .faddr 2 (.t 2 [])⟩,
    ⟨some 35, some (33, true), .load (some 5) (.t 34 [2])⟩,
    ⟨some 36, some (33, true), .faddr 2 (.t 3 [])⟩,
    ⟨some 37, some (33, true), .load (some 5) (.t 36 [3])⟩,
    ⟨some 38, some (33, true), .call 175 [(.t 35 []), (.t 37 [])]⟩,
    ⟨some 39, none, .pick (.t 33 []) (.t 38 []) (.c (.bool false))⟩,
    ⟨some 4, none, .take false (.t 39 [])⟩] [2, 3, 6, 8, 9, 10, 12, 14, 15, 16, 17, 19, 20, 22, 23, 24, 25, 26, 28, 30, 31, 32, 33, 35, 37, 38, 39])
  .ret)),
  [(4, none)], [(false, .deep)]⟩

def a_impl_sameStrings : AFunc := ⟨[false, false], 26,
  (.seq (.region [⟨some 4, none, .take false (.c (.bool false))⟩] [4])
  (.seq (.seq (.region [⟨some 6, none, .mv false (.t 0 [])⟩,
     ⟨some 7, none, .len (.t 6 [])⟩,
     ⟨some 8, none, .mv false (.t 1 [])⟩,
     ⟨some 9, none, .len (.t 8 [])⟩,
     ⟨some 10, none, .bin .neq (.t 7 []) (.t 9 [])⟩] [6, 7, 8, 9])
   (.cond (.t 10 [])
    (.seq (.region [⟨some 4, none, .take false (.c (.bool false))⟩] [0, 1, 10])
    .ret)
    .skip))
  (.seq (.seq (.region [⟨some 11, none, .mv false (.t 0 [])⟩,
     ⟨some 12, none, .len (.t 11 [])⟩,
     ⟨some 13, none, .take false (.c (I 0))⟩] [10, 11])
   (.block 0 (.pre [.kill [4, 5, 14, 15, 16, 17, 18, 19, 20, 21, 22, 23, 24, 25]] (.loop (.seq (.region [⟨some 14, none, .bin .lss (.t 13 []) (.t 12 [])⟩] [])
     (.seq (.cond (.t 14 [])
       .skip
       (.exit 0))
     (.seq (.block 1 (.seq (.region [⟨some 15, none, .mv false (.t 13 [])⟩,
         ⟨some 5, none, .take false (.t 15 [])⟩] [14, 15])
       (.seq (.region [⟨some 16, none, .mv false (.t 0 [])⟩,
         ⟨some 17, none, .mv false (.t 5 [])⟩,
         ⟨some 18, none, .iaddr 1 (.t 16 []) (.t 17 [])⟩,
         ⟨some 19, none, .load none (.t 18 [])⟩,
         ⟨some 20, none, .mv false (.t 1 [])⟩,
         ⟨some 21, none, .mv false (.t 5 [])⟩,
         ⟨some 22, none, .iaddr 1 (.t 20 []) (.t 21 [])⟩,
         ⟨some 23, none, .load none (.t 22 [])⟩,
         ⟨some 24, none, .bin .neq (.t 19 []) (.t 23 [])⟩] [5, 16, 17, 18, 19, 20, 21, 22, 23])
       (.cond (.t 24 [])
        (.seq (.region [⟨some 4, none, .take false (.c (.bool false))⟩] [0, 1, 12, 13, 24])
        .ret)
        .skip))))
     (.region [⟨some 25, none, .bin .add (.t 13 []) (.c (I 1))⟩,
      ⟨some 13, none, .mv false (.t 25 [])⟩] [24, 25]))))))))
  (.seq (.region [⟨some 4, none, .take false (.c (.bool true))⟩] [0, 1, 12, 13, 14])
  .ret)))),
  [(4, none)], [(false, .deep)]⟩

def a_impl_sameValues : AFunc := ⟨[false, false], 27,
  (.seq (.region [⟨some 4, none, .take false (.c (.bool false))⟩] [4])
  (.seq (.seq (.region [⟨some 6, none, .mv false (.t 0 [])⟩,
     ⟨some 7, none, .len (.t 6 [])⟩,
     ⟨some 8, none, .mv false (.t 1 [])⟩,
     ⟨some 9, none, .len (.t 8 [])⟩,
     ⟨some 10, none, .bin .neq (.t 7 []) (.t 9 [])⟩] [6, 7, 8, 9])
   (.cond (.t 10 [])
    (.seq (.region [⟨some 4, none, .take false (.c (.bool false))⟩] [0, 1, 10])
    .ret)
    .skip))
  (.seq (.seq (.region [⟨some 11, none, .mv false (.t 0 [])⟩,
     ⟨some 12, none, .len (.t 11 [])⟩,
     ⟨some 13, none, .take false (.c (I 0))⟩] [10, 11])
   (.block 0 (.pre [.kill [4, 5, 14, 15, 16, 17, 18, 19, 20, 21, 22, 23, 24, 25, 26]] (.loop (.seq (.region [⟨some 14, none, .bin .lss (.t 13 []) (.t 12 [])⟩] [])
     (.seq (.cond (.t 14 [])
       .skip
       (.exit 0))
     (.seq (.block 1 (.seq (.region [⟨some 15, none, .mv false (.t 13 [])⟩,
         ⟨some 5, none, .take false (.t 15 [])⟩] [14, 15])
       (.seq (.region [⟨some 16, none, .mv false (.t 0 [])⟩,
         ⟨some 17, none, .mv false (.t 5 [])⟩,
         ⟨some 18, none, .iaddr 5 (.t 16 []) (.t 17 [])⟩,
         ⟨some 19, none, .load (some 5) (.t 18 [])⟩,
         ⟨some 20, none, .mv false (.t 1 [])⟩,
         ⟨some 21, none, .mv false (.t 5 [])⟩,
         ⟨some 22, none, .iaddr 5 (.t 20 []) (.t 21 [])⟩,
         ⟨some 23, none, .load (some 5) (.t 22 [])⟩,
         ⟨some 24, none, .call 178 [(.t 19 []), (.t 23 [])]⟩,
         ⟨some 25, none, .un .not (.t 24 [])⟩] [5, 16, 17, 18, 19, 20, 21, 22, 23, 24])
       (.cond (.t 25 [])
        (.seq (.region [⟨some 4, none, .take false (.c (.bool false))⟩] [0, 1, 12, 13, 25])
        .ret)
        .skip))))
     (.region [⟨some 26, none, .bin .add (.t 13 []) (.c (I 1))⟩,
      ⟨some 13, none, .mv false (.t 26 [])⟩] [25, 26]))))))))
  (.seq (.region [⟨some 4, none, .take false (.c (.bool true))⟩] [0, 1, 12, 13, 14])
  .ret)))),
  [(4, none)], [(false, .deep)]⟩

def a_impl_IsPrefix : AFunc := ⟨[false, false], 26,
  (.seq (.region [⟨some 4, none, .take false (.c (.bool false))⟩] [4])
  (.seq (.seq (.region [⟨some 6, none, .mv false (.t 0 [])⟩,
     ⟨some 7, none, .len (.t 6 [])⟩,
     ⟨some 8, none, .mv false (.t 1 [])⟩,
     ⟨some 9, none, .len (.t 8 [])⟩,
     ⟨some 10, none, .bin .gtr (.t 7 []) (.t 9 [])⟩] [6, 7, 8, 9])
   (.cond (.t 10 [])
    (.seq (.region [⟨some 4, none, .take false (.c (.bool false))⟩] [0, 1, 10])
    .ret)
    .skip))
  (.seq (.seq (.region [⟨some 11, none, .mv false (.t 0 [])⟩,
     ⟨some 12, none, .len (.t 11 [])⟩,
     ⟨some 13, none, .take false (.c (I 0))⟩] [10, 11])
   (.block 0 (.pre [.kill [4, 5, 14, 15, 16, 17, 18, 19, 20, 21, 22, 23, 24, 25]] (.loop (.seq (.region [⟨some 14, none, .bin .lss (.t 13 []) (.t 12 [])⟩] [])
     (.seq (.cond (.t 14 [])
       .skip
       (.exit 0))
     (.seq (.block 1 (.seq (.region [⟨some 15, none, .mv false (.t 13 [])⟩,
         ⟨some 5, none, .take false (.t 15 [])⟩] [14, 15])
       (.seq (.region [⟨some 16, none, .mv false (.t 0 [])⟩,
         ⟨some 17, none, .mv false (.t 5 [])⟩,
         ⟨some 18, none, .iaddr 3 (.t 16 []) (.t 17 [])⟩,
         ⟨some 19, none, .load (some 3) (.t 18 [])⟩,
         ⟨some 20, none, .mv false (.t 1 [])⟩,
         ⟨some 21, none, .mv false (.t 5 [])⟩,
         ⟨some 22, none, .iaddr 3 (.t 20 []) (.t 21 [])⟩,
         ⟨some 23, none, .load (some 3) (.t 22 [])⟩,
         ⟨some 24, none, .eqAgg true [0, 2, 0] (.t 19 []) (.t 23 [])⟩] [5, 16, 17, 18, 19, 20, 21, 22, 23])
       (.cond (.t 24 [])
        (.seq (.region [⟨some 4, none, .take false (.c (.bool false))⟩] [0, 1, 12, 13, 24])
        .ret)
        .skip))))
     (.region [⟨some 25, none, .bin .add (.t 13 []) (.c (I 1))⟩,
      ⟨some 13, none, .mv false (.t 25 [])⟩] [24, 25]))))))))
  (.seq (.region [⟨some 4, none, .take false (.c (.bool true))⟩] [0, 1, 12, 13, 14])
  .ret)))),
  [(4, none)], [(false, .deep)]⟩

def a_laws_eqStringS : AFunc := ⟨[false, false], 26,
  (.seq (.region [⟨some 4, none, .take false (.c (.bool false))⟩] [4])
  (.seq (.seq (.region [⟨some 6, none, .mv false (.t 0 [])⟩,
     ⟨some 7, none, .len (.t 6 [])⟩,
     ⟨some 8, none, .mv false (.t 1 [])⟩,
     ⟨some 9, none, .len (.t 8 [])⟩,
     ⟨some 10, none, .bin .neq (.t 7 []) (.t 9 [])⟩] [6, 7, 8, 9])
   (.cond (.t 10 [])
    (.seq (.region [⟨some 4, none, .take false (.c (.bool false))⟩] [0, 1, 10])
    .ret)
    .skip))
  (.seq (.seq (.region [⟨some 5, none, .take false (.c (I 0))⟩] [10])
   (.block 0 (.pre [.kill [4, 11, 12, 13, 14, 15, 16, 17, 18, 19, 20, 21, 22, 23, 24, 25]] (.loop (.seq (.seq (.region [⟨some 11, none, .mv false (.t 5 [])⟩,
        ⟨some 12, none, .mv false (.t 0 [])⟩,
        ⟨some 13, none, .len (.t 12 [])⟩,
        ⟨some 14, none, .bin .lss (.t 11 []) (.t 13 [])⟩] [11, 12, 13])
      (.cond (.t 14 [])
       .skip
       (.exit 0)))
     (.seq (.block 1 (.seq (.region [⟨some 17, none, .mv false (.t 0 [])⟩,
         ⟨some 18, none, .mv false (.t 5 [])⟩,
         ⟨some 19, none, .iaddr 1 (.t 17 []) (.t 18 [])⟩,
         ⟨some 20, none, .load none (.t 19 [])⟩,
         ⟨some 21, none, .mv false (.t 1 [])⟩,
         ⟨some 22, none, .mv false (.t 5 [])⟩,
         ⟨some 23, none, .iaddr 1 (.t 21 []) (.t 22 [])⟩,
         ⟨some 24, none, .load none (.t 23 [])⟩,
         ⟨some 25, none, .bin .neq (.t 20 []) (.t 24 [])⟩] [14, 17, 18, 19, 20, 21, 22, 23, 24])
       (.cond (.t 25 [])
        (.seq (.region [⟨some 4, none, .take false (.c (.bool false))⟩] [0, 1, 5, 25])
        .ret)
        .skip)))
     (.region [⟨some 15, none, .mv false (.t 5 [])⟩,
      ⟨some 16, none, .bin .add (.t 15 []) (.c (I 1))⟩,
      ⟨some 5, none, .take false (.t 16 [])⟩] [15, 16, 25])))))))
  (.seq (.region [⟨some 4, none, .take false (.c (.bool true))⟩] [0, 1, 5, 14])
  .ret)))),
  [(4, none)], [(false, .deep)]⟩

def a_laws_eqTypeS : AFunc := ⟨[false, false], 27,
  (.seq (.region [⟨some 4, none, .take false (.c (.bool false))⟩] [4])
  (.seq (.seq (.region [⟨some 6, none, .mv false (.t 0 [])⟩,
     ⟨some 7, none, .len (.t 6 [])⟩,
     ⟨some 8, none, .mv false (.t 1 [])⟩,
     ⟨some 9, none, .len (.t 8 [])⟩,
     ⟨some 10, none, .bin .neq (.t 7 []) (.t 9 [])⟩] [6, 7, 8, 9])
   (.cond (.t 10 [])
    (.seq (.region [⟨some 4, none, .take false (.c (.bool false))⟩] [0, 1, 10])
    .ret)
    .skip))
  (.seq (.seq (.region [⟨some 5, none, .take false (.c (I 0))⟩] [10])
   (.block 0 (.pre [.kill [4, 11, 12, 13, 14, 15, 16, 17, 18, 19, 20, 21, 22, 23, 24, 25, 26]] (.loop (.seq (.seq (.region [⟨some 11, none, .mv false (.t 5 [])⟩,
        ⟨some 12, none, .mv false (.t 0 [])⟩,
        ⟨some 13, none, .len (.t 12 [])⟩,
        ⟨some 14, none, .bin .lss (.t 11 []) (.t 13 [])⟩] [11, 12, 13])
      (.cond (.t 14 [])
       .skip
       (.exit 0)))
     (.seq (.block 1 (.seq (.region [⟨some 17, none, .mv false (.t 0 [])⟩,
         ⟨some 18, none, .mv false (.t 5 [])⟩,
         ⟨some 19, none, .iaddr 3 (.t 17 []) (.t 18 [])⟩,
         ⟨some 20, none, .load (some 3) (.t 19 [])⟩,
         ⟨some 21, none, .mv false (.t 1 [])⟩,
         ⟨some 22, none, .mv false (.t 5 [])⟩,
         ⟨some 23, none, .iaddr 3 (.t 21 []) (.t 22 [])⟩,
         ⟨some 24, none, .load (some 3) (.t 23 [])⟩,
         ⟨some 25, none, .call 161 [(.t 20 []), (.t 24 [])]⟩,
         ⟨some 26, none, .un .not (.t 25 [])⟩] [14, 17, 18, 19, 20, 21, 22, 23, 24, 25])
       (.cond (.t 26 [])
        (.seq (.region [⟨some 4, none, .take false (.c (.bool false))⟩] [0, 1, 5, 26])
        .ret)
        .skip)))
     (.region [⟨some 15, none, .mv false (.t 5 [])⟩,
      ⟨some 16, none, .bin .add (.t 15 []) (.c (I 1))⟩,
      ⟨some 5, none, .take false (.t 16 [])⟩] [15, 16, 26])))))))
  (.seq (.region [⟨some 4, none, .take false (.c (.bool true))⟩] [0, 1, 5, 14])
  .ret)))),
  [(4, none)], [(false, .deep)]⟩

def a_laws_eqValueS : AFunc := ⟨[false, false], 27,
  (.seq (.region [⟨some 4, none, .take false (.c (.bool false))⟩] [4])
  (.seq (.seq (.region [⟨some 6, none, .mv false (.t 0 [])⟩,
     ⟨some 7, none, .len (.t 6 [])⟩,
     ⟨some 8, none, .mv false (.t 1 [])⟩,
     ⟨some 9, none, .len (.t 8 [])⟩,
     ⟨some 10, none, .bin .neq (.t 7 []) (.t 9 [])⟩] [6, 7, 8, 9])
   (.cond (.t 10 [])
    (.seq (.region [⟨some 4, none, .take false (.c (.bool false))⟩] [0, 1, 10])
    .ret)
    .skip))
  (.seq (.seq (.region [⟨some 5, none, .take false (.c (I 0))⟩] [10])
   (.block 0 (.pre [.kill [4, 11, 12, 13, 14, 15, 16, 17, 18, 19, 20, 21, 22, 23, 24, 25, 26]] (.loop (.seq (.seq (.region [⟨some 11, none, .mv false (.t 5 [])⟩,
        ⟨some 12, none, .mv false (.t 0 [])⟩,
        ⟨some 13, none, .len (.t 12 [])⟩,
        ⟨some 14, none, .bin .lss (.t 11 []) (.t 13 [])⟩] [11, 12, 13])
      (.cond (.t 14 [])
       .skip
       (.exit 0)))
     (.seq (.block 1 (.seq (.region [⟨some 17, none, .mv false (.t 0 [])⟩,
         ⟨some 18, none, .mv false (.t 5 [])⟩,
         ⟨some 19, none, .iaddr 5 (.t 17 []) (.t 18 [])⟩,
         ⟨some 20, none, .load (some 5) (.t 19 [])⟩,
         ⟨some 21, none, .mv false (.t 1 [])⟩,
         ⟨some 22, none, .mv false (.t 5 [])⟩,
         ⟨some 23, none, .iaddr 5 (.t 21 []) (.t 22 [])⟩,
         ⟨some 24, none, .load (some 5) (.t 23 [])⟩,
         ⟨some 25, none, .call 81 [(.t 20 []), (.t 24 [])]⟩,
         ⟨some 26, none, .un .not (.t 25 [])⟩] [14, 17, 18, 19, 20, 21, 22, 23, 24, 25])
       (.cond (.t 26 [])
        (.seq (.region [⟨some 4, none, .take false (.c (.bool false))⟩] [0, 1, 5, 26])
        .ret)
        .skip)))
     (.region [⟨some 15, none, .mv false (.t 5 [])⟩,
      ⟨some 16, none, .bin .add (.t 15 []) (.c (I 1))⟩,
      ⟨some 5, none, .take false (.t 16 [])⟩] [15, 16, 26])))))))
  (.seq (.region [⟨some 4, none, .take false (.c (.bool true))⟩] [0, 1, 5, 14])
  .ret)))),
  [(4, none)], [(false, .deep)]⟩

def a_laws_eqEdit : AFunc := ⟨[true, true], 27,
  (.seq (.region [⟨some 2, none, .box false (.t 0 [])⟩,
    ⟨some 3, none, .box false (.t 1 [])⟩,
    ⟨some 4, none, .take false (.c (.bool false))⟩] [0, 1, 4])
  (.seq (.seq (.region [⟨some 5, none, .faddr 0 (.t 2 [])⟩,
     ⟨some 6, none, .load none (.t 5 [2])⟩,
     ⟨some 7, none, .faddr 0 (.t 3 [])⟩,
     ⟨some 8, none, .load none (.t 7 [3])⟩,
     ⟨some 9, none, .bin .neq (.t 6 []) (.t 8 [])⟩] [5, 6, 7, 8])
   (.cond (.t 9 [])
    (.seq (.region [⟨some 4, none, .take false (.c (.bool false))⟩] [2, 3, 9])
    .ret)
    .skip))
  (.seq (.seq (.region [⟨some 10, none, .faddr 1 (.t 2 [])⟩,
     ⟨some 11, none, .load none (.t 10 [2])⟩,
     ⟨some 12, none, .faddr 1 (.t 3 [])⟩,
     ⟨some 13, none, .load none (.t 12 [3])⟩,
     ⟨some 14, none, .call 15 [(.t 11 []), (.t 13 [])]⟩,
     ⟨some 15, none, .un .not (.t 14 [])⟩] [9, 10, 11, 12, 13, 14])
   (.cond (.t 15 [])
    (.seq (.region [⟨some 4, none, .take false (.c (.bool false))⟩] [2, 3, 15])
    .ret)
    .skip))
  (.seq (.seq (.region [⟨some 16, none, .faddr 2 (.t 2 [])⟩,
     ⟨some 17, none, .load (some 5) (.t 16 [2])⟩,
     ⟨some 18, none, .faddr 2 (.t 3 [])⟩,
     ⟨some 19, none, .load (some 5) (.t 18 [3])⟩,
     ⟨some 20, none, .call 81 [(.t 17 []), (.t 19 [])]⟩,
     ⟨some 21, none, .un .not (.t 20 [])⟩] [15, 16, 17, 18, 19, 20])
   (.cond (.t 21 [])
    (.seq (.region [⟨some 4, none, .take false (.c (.bool false))⟩] [2, 3, 21])
    .ret)
    .skip))
  (.seq (.seq (.region [⟨some 22, none, .faddr 7 (.t 2 [])⟩,
     ⟨some 23, none, .load none (.t 22 [2])⟩,
     ⟨some 24, none, .faddr 7 (.t 3 [])⟩,
     ⟨some 25, none, .load none (.t 24 [3])⟩,
     ⟨some 26, none, .bin .neq (.t 23 []) (.t 25 [])⟩] [2, 3, 21, 23, 25])
   (.cond (.t 26 [])
    (.seq (.region [⟨some 4, none, .take false (.c (.bool false))⟩] [26])
    .ret)
    .skip))
  (.seq (.region [⟨some 4, none, .take false (.c (.bool true))⟩] [26])
  .ret)))))),
  [(4, none)], [(false, .deep)]⟩

def a_laws_szStepS : AFunc := ⟨[false, false], 27,
  (.seq (.region [⟨some 4, none, .take false (.c (I 0))⟩] [4])
  (.seq (.region [⟨some 6, none, .mv false (.t 1 [])⟩,
    ⟨some 7, none, .mv false (.t 0 [])⟩,
    ⟨some 8, none, .len (.t 7 [])⟩,
    ⟨some 9, none, .bin .sub (.t 6 []) (.t 8 [])⟩,
    ⟨some 1, none, .take false (.t 9 [])⟩] [6, 7, 8, 9])
  (.seq (.seq (.region [⟨some 10, none, .mv false (.t 1 [])⟩,
     ⟨some 11, none, .bin .lss (.t 10 []) (.c (I 0))⟩] [10])
   (.cond (.t 11 [])
    (.seq (.region [⟨some 4, none, .take false (.c (I (-1)))⟩] [0, 1, 11])
    .ret)
    .skip))
  (.seq (.seq (.region [⟨some 5, none, .take false (.c (I 0))⟩] [11])
   (.block 0 (.pre [.kill [4, 12, 13, 14, 15, 16, 17, 18, 19, 20, 21, 22, 23, 24, 25]] (.loop (.seq (.seq (.region [⟨some 12, none, .mv false (.t 5 [])⟩,
        ⟨some 13, none, .mv false (.t 0 [])⟩,
        ⟨some 14, none, .len (.t 13 [])⟩,
        ⟨some 15, none, .bin .lss (.t 12 []) (.t 14 [])⟩] [12, 13, 14])
      (.cond (.t 15 [])
       .skip
       (.exit 0)))
     (.seq (.block 1 (.seq (.region [⟨some 18, none, .mv false (.t 0 [])⟩,
         ⟨some 19, none, .mv false (.t 5 [])⟩,
         ⟨some 20, none, .iaddr 3 (.t 18 []) (.t 19 [])⟩,
         ⟨some 21, none, .load (some 3) (.t 20 [])⟩,
         ⟨some 22, none, .mv false (.t 1 [])⟩,
         ⟨some 23, none, .call 59 [(.t 21 []), (.t 22 [])]⟩,
         ⟨some 1, none, .take false (.t 23 [])⟩] [15, 18, 19, 20, 21, 22, 23])
       (.seq (.region [⟨some 24, none, .mv false (.t 1 [])⟩,
         ⟨some 25, none, .bin .lss (.t 24 []) (.c (I 0))⟩] [24])
       (.cond (.t 25 [])
        (.seq (.region [⟨some 4, none, .take false (.c (I (-1)))⟩] [0, 1, 5, 25])
        .ret)
        .skip))))
     (.region [⟨some 16, none, .mv false (.t 5 [])⟩,
      ⟨some 17, none, .bin .add (.t 16 []) (.c (I 1))⟩,
      ⟨some 5, none, .take false (.t 17 [])⟩] [16, 17, 25])))))))
  (.seq (.region [⟨some 26, none, .mv false (.t 1 [])⟩,
    ⟨some 4, none, .take false (.t 26 [])⟩] [0, 1, 5, 15, 26])
  .ret))))),
  [(4, none)], [(false, .deep)]⟩

def a_laws_toStepS : AFunc := ⟨[false], 23,
  (.seq (.region [⟨some 2, none, .take false (.c (Z 3))⟩] [2])
  (.seq (.region [⟨some 5, none, .mv false (.t 0 [])⟩,
    ⟨some 6, none, .len (.t 5 [])⟩,
    ⟨some 7, none, .make .deep 3 [I0, S0, I0] (.t 6 [])⟩,
    ⟨some 3, none, .take false (.t 7 [])⟩] [5, 6, 7])
  (.seq (.seq (.region [⟨some 4, none, .take false (.c (I 0))⟩] [])
   (.block 0 (.pre [.kill [8, 9, 10, 11, 12, 13, 14, 15, 16, 17, 18, 19, 20, 21]] (.loop (.seq (.seq (.region [⟨some 8, none, .mv false (.t 4 [])⟩,
        ⟨some 9, none, .mv false (.t 0 [])⟩,
        ⟨some 10, none, .len (.t 9 [])⟩,
        ⟨some 11, none, .bin .lss (.t 8 []) (.t 10 [])⟩] [8, 9, 10])
      (.cond (.t 11 [])
       .skip
       (.exit 0)))
     (.seq (.block 1 (.region [⟨some 14, none, .mv false (.t 3 [])⟩,
        ⟨some 15, none, .mv false (.t 4 [])⟩,
        ⟨some 16, none, .mv false (.t 0 [])⟩,
        ⟨some 17, none, .mv false (.t 4 [])⟩,
        ⟨some 18, none, .iaddr 3 (.t 16 []) (.t 17 [])⟩,
        ⟨some 19, none, .load (some 3) (.t 18 [])⟩,
        ⟨some 20, none, .call 60 [(.t 19 [])]⟩,
        ⟨some 21, none, .iaddr 3 (.t 14 [3]) (.t 15 [])⟩,
        ⟨none, none, .store 3 (.t 21 [3]) (.t 20 [])⟩] [11, 14, 15, 16, 17, 18, 19, 20]))
     (.region [⟨some 12, none, .mv false (.t 4 [])⟩,
      ⟨some 13, none, .bin .add (.t 12 []) (.c (I 1))⟩,
      ⟨some 4, none, .take false (.t 13 [])⟩] [12, 13])))))))
  (.seq (.region [⟨some 22, none, .mv false (.t 3 [])⟩,
    ⟨some 2, none, .take false (.t 22 [3])⟩] [0, 3, 4, 11, 22])
  .ret)))),
  [(2, none)], [(false, .deep)]⟩

def a_spec_IsPrefix : AFunc := ⟨[false, false], 26,
  (.seq (.region [⟨some 4, none, .take false (.c (.bool false))⟩] [4])
  (.seq (.seq (.region [⟨some 6, none, .mv false (.t 0 [])⟩,
     ⟨some 7, none, .len (.t 6 [])⟩,
     ⟨some 8, none, .mv false (.t 1 [])⟩,
     ⟨some 9, none, .len (.t 8 [])⟩,
     ⟨some 10, none, .bin .gtr (.t 7 []) (.t 9 [])⟩] [6, 7, 8, 9])
   (.cond (.t 10 [])
    (.seq (.region [⟨some 4, none, .take false (.c (.bool false))⟩] [0, 1, 10])
    .ret)
    .skip))
  (.seq (.seq (.region [⟨some 5, none, .take false (.c (I 0))⟩] [10])
   (.block 0 (.pre [.kill [4, 11, 12, 13, 14, 15, 16, 17, 18, 19, 20, 21, 22, 23, 24, 25]] (.loop (.seq (.seq (.region [⟨some 11, none, .mv false (.t 5 [])⟩,
        ⟨some 12, none, .mv false (.t 0 [])⟩,
        ⟨some 13, none, .len (.t 12 [])⟩,
        ⟨some 14, none, .bin .lss (.t 11 []) (.t 13 [])⟩] [11, 12, 13])
      (.cond (.t 14 [])
       .skip
       (.exit 0)))
     (.seq (.block 1 (.seq (.region [⟨some 17, none, .mv false (.t 0 [])⟩,
         ⟨some 18, none, .mv false (.t 5 [])⟩,
         ⟨some 19, none, .iaddr 3 (.t 17 []) (.t 18 [])⟩,
         ⟨some 20, none, .load (some 3) (.t 19 [])⟩,
         ⟨some 21, none, .mv false (.t 1 [])⟩,
         ⟨some 22, none, .mv false (.t 5 [])⟩,
         ⟨some 23, none, .iaddr 3 (.t 21 []) (.t 22 [])⟩,
         ⟨some 24, none, .load (some 3) (.t 23 [])⟩,
         ⟨some 25, none, .eqAgg true [0, 2, 0] (.t 20 []) (.t 24 [])⟩] [14, 17, 18, 19, 20, 21, 22, 23, 24])
       (.cond (.t 25 [])
        (.seq (.region [⟨some 4, none, .take false (.c (.bool false))⟩] [0, 1, 5, 25])
        .ret)
        .skip)))
     (.region [⟨some 15, none, .mv false (.t 5 [])⟩,
      ⟨some 16, none, .bin .add (.t 15 []) (.c (I 1))⟩,
      ⟨some 5, none, .take false (.t 16 [])⟩] [15, 16, 25])))))))
  (.seq (.region [⟨some 4, none, .take false (.c (.bool true))⟩] [0, 1, 5, 14])
  .ret)))),
  [(4, none)], [(false, .deep)]⟩

def a_laws_eqStepS : AFunc := ⟨[false, false], 27,
  (.seq (.region [⟨some 4, none, .take false (.c (.bool false))⟩] [4])
  (.seq (.seq (.region [⟨some 6, none, .mv false (.t 0 [])⟩,
     ⟨some 7, none, .len (.t 6 [])⟩,
     ⟨some 8, none, .mv false (.t 1 [])⟩,
     ⟨some 9, none, .len (.t 8 [])⟩,
     ⟨some 10, none, .bin .neq (.t 7 []) (.t 9 [])⟩] [6, 7, 8, 9])
   (.cond (.t 10 [])
    (.seq (.region [⟨some 4, none, .take false (.c (.bool false))⟩] [0, 1, 10])
    .ret)
    .skip))
  (.seq (.seq (.region [⟨some 5, none, .take false (.c (I 0))⟩] [10])
   (.block 0 (.pre [.kill [4, 11, 12, 13, 14, 15, 16, 17, 18, 19, 20, 21, 22, 23, 24, 25, 26]] (.loop (.seq (.seq (.region [⟨some 11, none, .mv false (.t 5 [])⟩,
        ⟨some 12, none, .mv false (.t 0 [])⟩,
        ⟨some 13, none, .len (.t 12 [])⟩,
        ⟨some 14, none, .bin .lss (.t 11 []) (.t 13 [])⟩] [11, 12, 13])
      (.cond (.t 14 [])
       .skip
       (.exit 0)))
     (.seq (.block 1 (.seq (.region [⟨some 17, none, .mv false (.t 0 [])⟩,
         ⟨some 18, none, .mv false (.t 5 [])⟩,
         ⟨some 19, none, .iaddr 3 (.t 17 []) (.t 18 [])⟩,
         ⟨some 20, none, .load (some 3) (.t 19 [])⟩,
         ⟨some 21, none, .mv false (.t 1 [])⟩,
         ⟨some 22, none, .mv false (.t 5 [])⟩,
         ⟨some 23, none, .iaddr 3 (.t 21 []) (.t 22 [])⟩,
         ⟨some 24, none, .load (some 3) (.t 23 [])⟩,
         ⟨some 25, none, .call 61 [(.t 20 []), (.t 24 [])]⟩,
         ⟨some 26, none, .un .not (.t 25 [])⟩] [14, 17, 18, 19, 20, 21, 22, 23, 24, 25])
       (.cond (.t 26 [])
        (.seq (.region [⟨some 4, none, .take false (.c (.bool false))⟩] [0, 1, 5, 26])
        .ret)
        .skip)))
     (.region [⟨some 15, none, .mv false (.t 5 [])⟩,
      ⟨some 16, none, .bin .add (.t 15 []) (.c (I 1))⟩,
      ⟨some 5, none, .take false (.t 16 [])⟩] [15, 16, 26])))))))
  (.seq (.region [⟨some 4, none, .take false (.c (.bool true))⟩] [0, 1, 5, 14])
  .ret)))),
  [(4, none)], [(false, .deep)]⟩

def a_laws_szStep : AFunc := ⟨[true, false], 13,
  (.seq (.region [⟨some 2, none, .box false (.t 0 [])⟩,
    ⟨some 4, none, .take false (.c (I 0))⟩] [0, 4])
  (.seq (.region [⟨some 5, none, .mv false (.t 1 [])⟩,
    ⟨some 6, none, .faddr 1 (.t 2 [])⟩,
    ⟨some 7, none, .load none (.t 6 [2])⟩,
    ⟨some 8, none, .lenS (.t 7 [])⟩,
    ⟨some 9, none, .bin .sub (.t 5 []) (.t 8 [])⟩,
    ⟨some 1, none, .take false (.t 9 [])⟩] [2, 5, 7, 8, 9])
  (.seq (.seq (.region [⟨some 10, none, .mv false (.t 1 [])⟩,
     ⟨some 11, none, .bin .lss (.t 10 []) (.c (I 0))⟩] [10])
   (.cond (.t 11 [])
    (.seq (.region [⟨some 4, none, .take false (.c (I (-1)))⟩] [1, 11])
    .ret)
    .skip))
  (.seq (.region [⟨some 12, none, .mv false (.t 1 [])⟩,
    ⟨some 4, none, .take false (.t 12 [])⟩] [1, 11, 12])
  .ret)))),
  [(4, none)], [(false, .deep)]⟩

def a_laws_toStep : AFunc := ⟨[true], 14,
  (.seq (.region [⟨some 1, none, .box false (.t 0 [])⟩,
    ⟨some 2, none, .alloc false [I0, S0, I0] [.deep, .deep, .deep]⟩] [0])
  (.seq (.region [⟨some 3, none, .alloc false [I0, S0, I0] [.deep, .deep, .deep]⟩] [])
  (.seq (.region [⟨some 4, none, .faddr 0 (.t 1 [])⟩,
    ⟨some 5, none, .load none (.t 4 [1])⟩,
    ⟨some 6, none, .faddr 0 (.t 3 [])⟩,
    ⟨none, none, .store 1 (.t 6 [3]) (.t 5 [])⟩] [4, 5, 6])
  (.seq (.region [⟨some 7, none, .faddr 1 (.t 1 [])⟩,
    ⟨some 8, none, .load none (.t 7 [1])⟩,
    ⟨some 9, none, .faddr 1 (.t 3 [])⟩,
    ⟨none, none, .store 1 (.t 9 [3]) (.t 8 [])⟩] [7, 8, 9])
  (.seq (.region [⟨some 10, none, .faddr 2 (.t 1 [])⟩,
    ⟨some 11, none, .load none (.t 10 [1])⟩,
    ⟨some 12, none, .faddr 2 (.t 3 [])⟩,
    ⟨none, none, .store 1 (.t 12 [3]) (.t 11 [])⟩] [1, 11, 12])
  (.seq (.region [⟨some 13, none, .load (some 3) (.t 3 [3])⟩,
    ⟨none, none, .store 3 (.t 2 [2]) (.t 13 [])⟩] [3, 13])
  .ret)))))),
  [(2, some 3)], [(true, .deep)]⟩

def a_laws_eqStep : AFunc := ⟨[true, true], 20,
  (.seq (.region [⟨some 2, none, .box false (.t 0 [])⟩,
    ⟨some 3, none, .box false (.t 1 [])⟩,
    ⟨some 4, none, .take false (.c (.bool false))⟩] [0, 1, 4])
  (.seq (.seq (.region [⟨some 5, none, .faddr 0 (.t 2 [])⟩,
     ⟨some 6, none, .load none (.t 5 [2])⟩,
     ⟨some 7, none, .faddr 0 (.t 3 [])⟩,
     ⟨some 8, none, .load none (.t 7 [3])⟩,
     ⟨some 9, none, .bin .neq (.t 6 []) (.t 8 [])⟩] [5, 6, 7, 8])
   (.cond (.t 9 [])
    (.seq (.region [⟨some 4, none, .take false (.c (.bool false))⟩] [2, 3, 9])
    .ret)
    .skip))
  (.seq (.seq (.region [⟨some 10, none, .faddr 1 (.t 2 [])⟩,
     ⟨some 11, none, .load none (.t 10 [2])⟩,
     ⟨some 12, none, .faddr 1 (.t 3 [])⟩,
     ⟨some 13, none, .load none (.t 12 [3])⟩,
     ⟨some 14, none, .bin .neq (.t 11 []) (.t 13 [])⟩] [9, 10, 11, 12, 13])
   (.cond (.t 14 [])
    (.seq (.region [⟨some 4, none, .take false (.c (.bool false))⟩] [2, 3, 14])
    .ret)
    .skip))
  (.seq (.seq (.region [⟨some 15, none, .faddr 2 (.t 2 [])⟩,
     ⟨some 16, none, .load none (.t 15 [2])⟩,
     ⟨some 17, none, .faddr 2 (.t 3 [])⟩,
     ⟨some 18, none, .load none (.t 17 [3])⟩,
     ⟨some 19, none, .bin .neq (.t 16 []) (.t 18 [])⟩] [2, 3, 14, 16, 18])
   (.cond (.t 19 [])
    (.seq (.region [⟨some 4, none, .take false (.c (.bool false))⟩] [19])
    .ret)
    .skip))
  (.seq (.region [⟨some 4, none, .take false (.c (.bool true))⟩] [19])
  .ret))))),
  [(4, none)], [(false, .deep)]⟩

def tab : Nat → Option AFunc
  | 138 => some a_laws_FnExactEqualLog
  | 148 => some a_laws_szLog
  | 150 => some a_laws_toLog
  | 149 => some a_spec_EqualLog
  | 151 => some a_impl_EqualLog
  | 152 => some a_laws_eqLog
  | 157 => some a_laws_szType
  | 76 => some a_laws_szValue
  | 41 => some a_laws_szEditS
  | 159 => some a_laws_toType
  | 78 => some a_laws_toValue
  | 43 => some a_laws_toEditS
  | 174 => some a_spec_EqualType
  | 175 => some a_spec_EqualValue
  | 176 => some a_spec_l21Same
  | 177 => some a_impl_EqualType
  | 178 => some a_impl_EqualValue
  | 179 => some a_impl_sameEdits
  | 161 => some a_laws_eqType
  | 81 => some a_laws_eqValue
  | 45 => some a_laws_eqEditS
  | 97 => some a_laws_szStringS
  | 184 => some a_laws_szTypeS
  | 98 => some a_laws_szValueS
  | 71 => some a_laws_szEdit
  | 100 => some a_laws_toStringS
  | 188 => some a_laws_toTypeS
  | 101 => some a_laws_toValueS
  | 73 => some a_laws_toEdit
  | 208 => some a_spec_l3Texts
  | 209 => some a_spec_l19Same
  | 210 => some a_impl_sameStrings
  | 211 => some a_impl_sameValues
  | 14 => some a_impl_IsPrefix
  | 103 => some a_laws_eqStringS
  | 192 => some a_laws_eqTypeS
  | 104 => some a_laws_eqValueS
  | 75 => some a_laws_eqEdit
  | 11 => some a_laws_szStepS
  | 13 => some a_laws_toStepS
  | 12 => some a_spec_IsPrefix
  | 15 => some a_laws_eqStepS
  | 59 => some a_laws_szStep
  | 60 => some a_laws_toStep
  | 61 => some a_laws_eqStep
  | _ => none
def num : Nat → FuncId
  | 138 => 7
  | 148 => 29
  | 150 => 31
  | 149 => 30
  | 151 => 32
  | 152 => 33
  | 157 => 39
  | 76 => 47
  | 41 => 17
  | 159 => 42
  | 78 => 49
  | 43 => 19
  | 174 => 70
  | 175 => 71
  | 176 => 72
  | 177 => 73
  | 178 => 74
  | 179 => 75
  | 161 => 45
  | 81 => 51
  | 45 => 21
  | 97 => 78
  | 184 => 79
  | 98 => 92
  | 71 => 34
  | 100 => 84
  | 188 => 85
  | 101 => 94
  | 73 => 36
  | 208 => 109
  | 209 => 110
  | 210 => 111
  | 211 => 112
  | 14 => 113
  | 103 => 90
  | 192 => 91
  | 104 => 96
  | 75 => 38
  | 11 => 12
  | 13 => 14
  | 12 => 153
  | 15 => 16
  | 59 => 54
  | 60 => 57
  | 61 => 60
  | _ => 0
theorem k138 : chkFn Try.prog num 138 a_laws_FnExactEqualLog = true := by kernel_rfl
theorem k148 : chkFn Try.prog num 148 a_laws_szLog = true := by kernel_rfl
theorem k150 : chkFn Try.prog num 150 a_laws_toLog = true := by kernel_rfl
theorem k149 : chkFn Try.prog num 149 a_spec_EqualLog = true := by kernel_rfl
theorem k151 : chkFn Try.prog num 151 a_impl_EqualLog = true := by kernel_rfl
theorem k152 : chkFn Try.prog num 152 a_laws_eqLog = true := by kernel_rfl
theorem k157 : chkFn Try.prog num 157 a_laws_szType = true := by kernel_rfl
theorem k76 : chkFn Try.prog num 76 a_laws_szValue = true := by kernel_rfl
theorem k41 : chkFn Try.prog num 41 a_laws_szEditS = true := by kernel_rfl
theorem k159 : chkFn Try.prog num 159 a_laws_toType = true := by kernel_rfl
theorem k78 : chkFn Try.prog num 78 a_laws_toValue = true := by kernel_rfl
theorem k43 : chkFn Try.prog num 43 a_laws_toEditS = true := by kernel_rfl
theorem k174 : chkFn Try.prog num 174 a_spec_EqualType = true := by kernel_rfl
theorem k175 : chkFn Try.prog num 175 a_spec_EqualValue = true := by kernel_rfl
theorem k176 : chkFn Try.prog num 176 a_spec_l21Same = true := by kernel_rfl
theorem k177 : chkFn Try.prog num 177 a_impl_EqualType = true := by kernel_rfl
theorem k178 : chkFn Try.prog num 178 a_impl_EqualValue = true := by kernel_rfl
theorem k179 : chkFn Try.prog num 179 a_impl_sameEdits = true := by kernel_rfl
theorem k161 : chkFn Try.prog num 161 a_laws_eqType = true := by kernel_rfl
theorem k81 : chkFn Try.prog num 81 a_laws_eqValue = true := by kernel_rfl
theorem k45 : chkFn Try.prog num 45 a_laws_eqEditS = true := by kernel_rfl
theorem k97 : chkFn Try.prog num 97 a_laws_szStringS = true := by kernel_rfl
theorem k184 : chkFn Try.prog num 184 a_laws_szTypeS = true := by kernel_rfl
theorem k98 : chkFn Try.prog num 98 a_laws_szValueS = true := by kernel_rfl
theorem k71 : chkFn Try.prog num 71 a_laws_szEdit = true := by kernel_rfl
theorem k100 : chkFn Try.prog num 100 a_laws_toStringS = true := by kernel_rfl
theorem k188 : chkFn Try.prog num 188 a_laws_toTypeS = true := by kernel_rfl
theorem k101 : chkFn Try.prog num 101 a_laws_toValueS = true := by kernel_rfl
theorem k73 : chkFn Try.prog num 73 a_laws_toEdit = true := by kernel_rfl
theorem k208 : chkFn Try.prog num 208 a_spec_l3Texts = true := by kernel_rfl
theorem k209 : chkFn Try.prog num 209 a_spec_l19Same = true := by kernel_rfl
theorem k210 : chkFn Try.prog num 210 a_impl_sameStrings = true := by kernel_rfl
theorem k211 : chkFn Try.prog num 211 a_impl_sameValues = true := by kernel_rfl
theorem k14 : chkFn Try.prog num 14 a_impl_IsPrefix = true := by kernel_rfl
theorem k103 : chkFn Try.prog num 103 a_laws_eqStringS = true := by kernel_rfl
theorem k192 : chkFn Try.prog num 192 a_laws_eqTypeS = true := by kernel_rfl
theorem k104 : chkFn Try.prog num 104 a_laws_eqValueS = true := by kernel_rfl
theorem k75 : chkFn Try.prog num 75 a_laws_eqEdit = true := by kernel_rfl
theorem k11 : chkFn Try.prog num 11 a_laws_szStepS = true := by kernel_rfl
theorem k13 : chkFn Try.prog num 13 a_laws_toStepS = true := by kernel_rfl
theorem k12 : chkFn Try.prog num 12 a_spec_IsPrefix = true := by kernel_rfl
theorem k15 : chkFn Try.prog num 15 a_laws_eqStepS = true := by kernel_rfl
theorem k59 : chkFn Try.prog num 59 a_laws_szStep = true := by kernel_rfl
theorem k60 : chkFn Try.prog num 60 a_laws_toStep = true := by kernel_rfl
theorem k61 : chkFn Try.prog num 61 a_laws_eqStep = true := by kernel_rfl
theorem tabHF : ∀ k fd, tab k = some fd → ∃ fn c, FnOk Try.prog num k fd fn c := by
  intro k fd h
  unfold tab at h
  split at h
  · injection h with h; subst h; exact chkFn_ _ _ k138
  · injection h with h; subst h; exact chkFn_ _ _ k148
  · injection h with h; subst h; exact chkFn_ _ _ k150
  · injection h with h; subst h; exact chkFn_ _ _ k149
  · injection h with h; subst h; exact chkFn_ _ _ k151
  · injection h with h; subst h; exact chkFn_ _ _ k152
  · injection h with h; subst h; exact chkFn_ _ _ k157
  · injection h with h; subst h; exact chkFn_ _ _ k76
  · injection h with h; subst h; exact chkFn_ _ _ k41
  · injection h with h; subst h; exact chkFn_ _ _ k159
  · injection h with h; subst h; exact chkFn_ _ _ k78
  · injection h with h; subst h; exact chkFn_ _ _ k43
  · injection h with h; subst h; exact chkFn_ _ _ k174
  · injection h with h; subst h; exact chkFn_ _ _ k175
  · injection h with h; subst h; exact chkFn_ _ _ k176
  · injection h with h; subst h; exact chkFn_ _ _ k177
  · injection h with h; subst h; exact chkFn_ _ _ k178
  · injection h with h; subst h; exact chkFn_ _ _ k179
  · injection h with h; subst h; exact chkFn_ _ _ k161
  · injection h with h; subst h; exact chkFn_ _ _ k81
  · injection h with h; subst h; exact chkFn_ _ _ k45
  · injection h with h; subst h; exact chkFn_ _ _ k97
  · injection h with h; subst h; exact chkFn_ _ _ k184
  · injection h with h; subst h; exact chkFn_ _ _ k98
  · injection h with h; subst h; exact chkFn_ _ _ k71
  · injection h with h; subst h; exact chkFn_ _ _ k100
  · injection h with h; subst h; exact chkFn_ _ _ k188
  · injection h with h; subst h; exact chkFn_ _ _ k101
  · injection h with h; subst h; exact chkFn_ _ _ k73
  · injection h with h; subst h; exact chkFn_ _ _ k208
  · injection h with h; subst h; exact chkFn_ _ _ k209
  · injection h with h; subst h; exact chkFn_ _ _ k210
  · injection h with h; subst h; exact chkFn_ _ _ k211
  · injection h with h; subst h; exact chkFn_ _ _ k14
  · injection h with h; subst h; exact chkFn_ _ _ k103
  · injection h with h; subst h; exact chkFn_ _ _ k192
  · injection h with h; subst h; exact chkFn_ _ _ k104
  · injection h with h; subst h; exact chkFn_ _ _ k75
  · injection h with h; subst h; exact chkFn_ _ _ k11
  · injection h with h; subst h; exact chkFn_ _ _ k13
  · injection h with h; subst h; exact chkFn_ _ _ k12
  · injection h with h; subst h; exact chkFn_ _ _ k15
  · injection h with h; subst h; exact chkFn_ _ _ k59
  · injection h with h; subst h; exact chkFn_ _ _ k60
  · injection h with h; subst h; exact chkFn_ _ _ k61
  · cases h
end Go.Proofs.Ytkiliooegoldoaa
