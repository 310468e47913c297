/- The functions of the claim, as abstract code; each is checked against the program. -/
import Derived.Test.YtkiliooegoldoaaE4
import Derived.Test.YtkiliooegoldoaaChecked
set_option maxRecDepth 100000
namespace Go.Proofs.Ytkiliooegoldoaa
open Go

def a_laws_FnExactIsAction : AFunc := ⟨[true, true], 45,
  (.pre [.kill [2, 3, 4, 5, 6, 7, 8, 9, 10, 11, 12, 13, 14, 15, 16, 17, 18, 19, 20, 21, 22, 23, 24, 25, 26, 27, 28, 29, 30, 31, 32, 33, 34, 35, 36, 37, 38, 39, 40, 41, 42, 43, 44]] (.seq (.region [⟨some 2, none, .box false (.t 0 [])⟩,
    ⟨some 3, none, .box false (.t 1 [])⟩,
    ⟨some 4, none, .take false (.c (.bool false))⟩] [0, 1, 4])
  (.seq (.region [⟨some 5, none, .take false (.c (I 1048576))⟩] [])
  (.seq (.region [⟨some 10, none, .load (some 3) (.t 2 [2])⟩,
    ⟨some 11, none, .mv false (.t 5 [])⟩,
    ⟨some 12, none, .call 157 [(.t 10 []), (.t 11 [])]⟩,
    ⟨some 5, none, .take false (.t 12 [])⟩] [10, 11, 12])
  (.seq (.seq (.region [⟨some 13, none, .mv false (.t 5 [])⟩,
     ⟨some 14, none, .bin .lss (.t 13 []) (.c (I 0))⟩] [13])
   (.cond (.t 14 [])
    (.pre [.kill [2, 3, 5, 14]] (.seq (.region [⟨some 4, none, .take false (.c (.bool true))⟩] [])
    .ret))
    (.pre [.kill [14]] .skip)))
  (.seq (.region [⟨some 15, none, .load (some 7) (.t 3 [3])⟩,
    ⟨some 16, none, .mv false (.t 5 [])⟩,
    ⟨some 17, none, .call 46 [(.t 15 []), (.t 16 [])]⟩,
    ⟨some 5, none, .take false (.t 17 [])⟩] [15, 16, 17])
  (.seq (.seq (.region [⟨some 18, none, .mv false (.t 5 [])⟩,
     ⟨some 19, none, .bin .lss (.t 18 []) (.c (I 0))⟩] [5, 18])
   (.cond (.t 19 [])
    (.pre [.kill [2, 3, 19]] (.seq (.region [⟨some 4, none, .take false (.c (.bool true))⟩] [])
    .ret))
    (.pre [.kill [19]] .skip)))
  (.seq (.region [⟨some 20, none, .load (some 3) (.t 2 [2])⟩,
    ⟨some 21, none, .call 159 [(.t 20 [])]⟩,
    ⟨some 22, none, .load (some 7) (.t 3 [3])⟩,
    ⟨some 23, none, .call 48 [(.t 22 [])]⟩,
    ⟨some 24, none, .call 170 [(.t 21 []), (.t 23 [])]⟩,
    ⟨some 6, none, .take false (.t 24 [])⟩] [20, 21, 22, 23, 24])
  (.seq (.region [⟨some 25, none, .load (some 3) (.t 2 [2])⟩,
    ⟨some 26, none, .call 159 [(.t 25 [])]⟩,
    ⟨some 7, none, .alloc false [I0, (Z 1), (Z 3)] [.deep, .deep, .deep]⟩,
    ⟨none, none, .store 3 (.t 7 [7]) (.t 26 [])⟩] [25, 26])
  (.seq (.region [⟨some 27, none, .load (some 7) (.t 3 [3])⟩,
    ⟨some 28, none, .call 48 [(.t 27 [])]⟩,
    ⟨some 8, none, .alloc false [I0, I0, I0, I0, S0, (Z 1), (Z 5)] [.deep, .deep, .deep, .deep, .deep, .deep, .deep]⟩,
    ⟨none, none, .store 7 (.t 8 [8]) (.t 28 [])⟩] [27, 28])
  (.seq (.region [⟨some 29, none, .load (some 3) (.t 7 [7])⟩,
    ⟨some 30, none, .load (some 7) (.t 8 [8])⟩,
    ⟨some 31, none, .call 171 [(.t 29 [7]), (.t 30 [8])]⟩,
    ⟨some 9, none, .take false (.t 31 [])⟩] [29, 30, 31])
  (.seq (.seq (.region [⟨some 32, none, .mv false (.t 9 [])⟩,
     ⟨some 33, none, .mv false (.t 6 [])⟩,
     ⟨some 34, none, .eqB true (.t 32 []) (.t 33 [])⟩] [6, 9, 32, 33])
   (.cond (.t 34 [])
    (.pre [.kill [2, 3, 7, 8, 34]] (.seq (.region [⟨some 4, none, .take false (.c (.bool false))⟩] [])
    .ret))
    (.pre [.kill [34]] .skip)))
  (.seq (.seq (.region [⟨some 35, none, .load (some 3) (.t 7 [7])⟩,
     ⟨some 36, none, .load (some 3) (.t 2 [2])⟩,
     ⟨some 37, none, .call 159 [(.t 36 [])]⟩,
     ⟨some 38, none, .call 161 [(.t 35 [7]), (.t 37 [])]⟩,
     ⟨some 39, none, .un .not (.t 38 [])⟩] [2, 7, 35, 36, 37, 38])
   (.cond (.t 39 [])
    (.pre [.kill [3, 8, 39]] (.seq (.region [⟨some 4, none, .take false (.c (.bool false))⟩] [])
    .ret))
    (.pre [.kill [39]] .skip)))
  (.seq (.seq (.region [⟨some 40, none, .load (some 7) (.t 8 [8])⟩,
     ⟨some 41, none, .load (some 7) (.t 3 [3])⟩,
     ⟨some 42, none, .call 48 [(.t 41 [])]⟩,
     ⟨some 43, none, .call 50 [(.t 40 [8]), (.t 42 [])]⟩,
     ⟨some 44, none, .un .not (.t 43 [])⟩] [3, 8, 40, 41, 42, 43])
   (.cond (.t 44 [])
    (.pre [.kill [44]] (.seq (.region [⟨some 4, none, .take false (.c (.bool false))⟩] [])
    .ret))
    (.pre [.kill [44]] .skip)))
  (.seq (.region [⟨some 4, none, .take false (.c (.bool true))⟩] [])
  .ret))))))))))))))),
  [(4, none)], [(false, .deep)]⟩

def a_laws_szType : AFunc := ⟨[true, false], 18,
  (.pre [.kill [2, 3, 4, 5, 6, 7, 8, 9, 10, 11, 12, 13, 14, 15, 16, 17]] (.seq (.region [⟨some 2, none, .box false (.t 0 [])⟩,
    ⟨some 4, none, .take false (.c (I 0))⟩] [0, 4])
  (.seq (.region [⟨some 5, none, .faddr 1 (.t 2 [])⟩,
    ⟨some 6, none, .load none (.t 5 [2])⟩,
    ⟨some 7, none, .mv false (.t 1 [])⟩,
    ⟨some 8, none, .call 97 [(.t 6 []), (.t 7 [])]⟩,
    ⟨some 1, none, .take false (.t 8 [])⟩] [5, 6, 7, 8])
  (.seq (.seq (.region [⟨some 9, none, .mv false (.t 1 [])⟩,
     ⟨some 10, none, .bin .lss (.t 9 []) (.c (I 0))⟩] [9])
   (.cond (.t 10 [])
    (.pre [.kill [1, 2, 10]] (.seq (.region [⟨some 4, none, .take false (.c (I (-1)))⟩] [])
    .ret))
    (.pre [.kill [10]] .skip)))
  (.seq (.region [⟨some 11, none, .faddr 2 (.t 2 [])⟩,
    ⟨some 12, none, .load none (.t 11 [2])⟩,
    ⟨some 13, none, .mv false (.t 1 [])⟩,
    ⟨some 14, none, .call 184 [(.t 12 []), (.t 13 [])]⟩,
    ⟨some 1, none, .take false (.t 14 [])⟩] [2, 12, 13, 14])
  (.seq (.seq (.region [⟨some 15, none, .mv false (.t 1 [])⟩,
     ⟨some 16, none, .bin .lss (.t 15 []) (.c (I 0))⟩] [15])
   (.cond (.t 16 [])
    (.pre [.kill [1, 16]] (.seq (.region [⟨some 4, none, .take false (.c (I (-1)))⟩] [])
    .ret))
    (.pre [.kill [16]] .skip)))
  (.seq (.region [⟨some 17, none, .mv false (.t 1 [])⟩,
    ⟨some 4, none, .take false (.t 17 [])⟩] [1, 17])
  .ret))))))),
  [(4, none)], [(false, .deep)]⟩

def a_laws_szAction : AFunc := ⟨[true, false], 12,
  (.pre [.kill [2, 3, 4, 5, 6, 7, 8, 9, 10, 11]] (.seq (.region [⟨some 2, none, .box false (.t 0 [])⟩,
    ⟨some 4, none, .take false (.c (I 0))⟩] [0, 4])
  (.seq (.region [⟨some 5, none, .faddr 2 (.t 2 [])⟩,
    ⟨some 6, none, .load (some 5) (.t 5 [2])⟩,
    ⟨some 7, none, .mv false (.t 1 [])⟩,
    ⟨some 8, none, .call 76 [(.t 6 []), (.t 7 [])]⟩,
    ⟨some 1, none, .take false (.t 8 [])⟩] [2, 6, 7, 8])
  (.seq (.seq (.region [⟨some 9, none, .mv false (.t 1 [])⟩,
     ⟨some 10, none, .bin .lss (.t 9 []) (.c (I 0))⟩] [9])
   (.cond (.t 10 [])
    (.pre [.kill [1, 10]] (.seq (.region [⟨some 4, none, .take false (.c (I (-1)))⟩] [])
    .ret))
    (.pre [.kill [10]] .skip)))
  (.seq (.region [⟨some 11, none, .mv false (.t 1 [])⟩,
    ⟨some 4, none, .take false (.t 11 [])⟩] [1, 11])
  .ret))))),
  [(4, none)], [(false, .deep)]⟩

def a_laws_toType : AFunc := ⟨[true], 16,
  (.pre [.kill [1, 2, 3, 4, 5, 6, 7, 8, 9, 10, 11, 12, 13, 14, 15]] (.seq (.region [⟨some 1, none, .box false (.t 0 [])⟩,
    ⟨some 2, none, .alloc false [I0, (Z 1), (Z 3)] [.deep, .deep, .deep]⟩] [0])
  (.seq (.region [⟨some 3, none, .alloc false [I0, (Z 1), (Z 3)] [.deep, .deep, .deep]⟩] [])
  (.seq (.region [⟨some 4, none, .faddr 0 (.t 1 [])⟩,
    ⟨some 5, none, .load none (.t 4 [1])⟩,
    ⟨some 6, none, .faddr 0 (.t 3 [])⟩,
    ⟨none, none, .store 1 (.t 6 [3]) (.t 5 [])⟩] [4, 5, 6])
  (.seq (.region [⟨some 7, none, .faddr 1 (.t 1 [])⟩,
    ⟨some 8, none, .load none (.t 7 [1])⟩,
    ⟨some 9, none, .call 100 [(.t 8 [])]⟩,
    ⟨some 10, none, .faddr 1 (.t 3 [])⟩,
    ⟨none, none, .store 1 (.t 10 [3]) (.t 9 [])⟩] [7, 8, 9, 10])
  (.seq (.region [⟨some 11, none, .faddr 2 (.t 1 [])⟩,
    ⟨some 12, none, .load none (.t 11 [1])⟩,
    ⟨some 13, none, .call 188 [(.t 12 [])]⟩,
    ⟨some 14, none, .faddr 2 (.t 3 [])⟩,
    ⟨none, none, .store 1 (.t 14 [3]) (.t 13 [])⟩] [1, 12, 13, 14])
  (.seq (.region [⟨some 15, none, .load (some 3) (.t 3 [3])⟩,
    ⟨none, none, .store 3 (.t 2 [2]) (.t 15 [3])⟩] [3, 15])
  .ret))))))),
  [(2, some 3)], [(true, .deep)]⟩

def a_laws_toAction : AFunc := ⟨[true], 15,
  (.pre [.kill [1, 2, 3, 4, 5, 6, 7, 8, 9, 10, 11, 12, 13, 14]] (.seq (.region [⟨some 1, none, .box false (.t 0 [])⟩,
    ⟨some 2, none, .alloc false [I0, I0, I0, I0, S0, (Z 1), (Z 5)] [.deep, .deep, .deep, .deep, .deep, .deep, .deep]⟩] [0])
  (.seq (.region [⟨some 3, none, .alloc false [I0, I0, I0, I0, S0, (Z 1), (Z 5)] [.deep, .deep, .deep, .deep, .deep, .deep, .deep]⟩] [])
  (.seq (.region [⟨some 4, none, .faddr 0 (.t 1 [])⟩,
    ⟨some 5, none, .load none (.t 4 [1])⟩,
    ⟨some 6, none, .faddr 0 (.t 3 [])⟩,
    ⟨none, none, .store 1 (.t 6 [3]) (.t 5 [])⟩] [4, 5, 6])
  (.seq (.region [⟨some 7, none, .faddr 1 (.t 1 [])⟩,
    ⟨some 8, none, .load none (.t 7 [1])⟩,
    ⟨some 9, none, .faddr 1 (.t 3 [])⟩,
    ⟨none, none, .store 1 (.t 9 [3]) (.t 8 [])⟩] [7, 8, 9])
  (.seq (.region [⟨some 10, none, .faddr 2 (.t 1 [])⟩,
    ⟨some 11, none, .load (some 5) (.t 10 [1])⟩,
    ⟨some 12, none, .call 78 [(.t 11 [])]⟩,
    ⟨some 13, none, .faddr 2 (.t 3 [])⟩,
    ⟨none, none, .store 5 (.t 13 [3]) (.t 12 [])⟩] [1, 11, 12, 13])
  (.seq (.region [⟨some 14, none, .load (some 7) (.t 3 [3])⟩,
    ⟨none, none, .store 7 (.t 2 [2]) (.t 14 [3])⟩] [3, 14])
  .ret))))))),
  [(2, some 7)], [(true, .deep)]⟩

def a_spec_IsAction : AFunc := ⟨[true, true], 54,
  (.pre [.kill [2, 3, 4, 5, 6, 7, 8, 9, 10, 11, 12, 13, 14, 15, 16, 17, 18, 19, 20, 21, 22, 23, 24, 25, 26, 27, 28, 29, 30, 31, 32, 33, 34, 35, 36, 37, 38, 39, 40, 41, 42, 43, 44, 45, 46, 47, 48, 49, 50, 51, 52, 53]] (.seq (.region [⟨some 2, none, .box false (.t 0 [])⟩,
    ⟨some 3, none, .box false (.t 1 [])⟩,
    ⟨some 4, none, .take false (.c (.bool false))⟩] [0, 1, 4])
  (.seq (.seq (.region [⟨some 5, none, .load (some 3) (.t 2 [2])⟩,
     ⟨some 6, none, .call 185 [(.t 5 [])]⟩,
     ⟨some 7, none, .un .not (.t 6 [])⟩,
     ⟨some 8, none, .mv false (.t 7 [])⟩,
     ⟨some 9, some (8, false), .faddr 0 (.t 3 [])⟩,
     ⟨some 10, some (8, false), .load none (.t 9 [3])⟩,
     ⟨some 11, some (8, false), .bin .neq (.t 10 []) (.c (I 2))⟩,
     ⟨some 12, some (8, false), .mv false (.t 11 [])⟩,
     ⟨some 13, some (12, true), .faddr 2 (.t 3 [])⟩,
     ⟨some 14, some (12, true), .load (some 5) (.t 13 [3])⟩,
     ⟨some 15, some (12, true), .call 202 [(.t 14 [])]⟩,
     ⟨some 16, some (12, true), .un .not (.t 15 [])⟩,
     ⟨some 17, some (8, false), .pick (.t 12 []) (.t 16 []) (.c (.bool false))⟩,
     ⟨some 18, none, .pick (.t 8 []) (.c (.bool true)) (.t 17 [])⟩,
     ⟨some 19, none, .mv false (.t 18 [])⟩,
     ⟨some 20, some (19, false), .faddr 0 (.t 3 [])⟩,
     ⟨some 21, some (19, false), .load none (.t 20 [3])⟩,
     ⟨some 22, some (19, false), .bin .neq (.t 21 []) (.c (I 3))⟩,
     ⟨some 23, some (19, false), .mv false (.t 22 [])⟩,
     ⟨some 24, some (23, true), .faddr 1 (.t 3 [])⟩,
     ⟨some 25, some (23, true), .load none (.t 24 [3])⟩,
     ⟨some 26, some (23, true), .bin .neq (.t 25 []) (.c (I 0))⟩,
     ⟨some 27, some (19, false), .pick (.t 23 []) (.t 26 []) (.c (.bool false))⟩,
     ⟨some 28, none, .pick (.t 19 []) (.c (.bool true)) (.t 27 [])⟩] [5, 6, 7, 8, 9, 10, 11, 12, 13, 14, 15, 16, 17, 18, 19, 20, 21, 22, 23, 24, 25, 26, 27])
   (.cond (.t 28 [])
    (.pre [.kill [2, 3, 28]] (.seq (.region [⟨some 4, none, .take false (.c (.bool false))⟩] [])
    .ret))
    (.pre [.kill [28]] .skip)))
  (.seq (.seq (.region [⟨some 29, none, .faddr 0 (.t 3 [])⟩,
     ⟨some 30, none, .load none (.t 29 [3])⟩] [29])
   (.block 0 (.seq (.region [⟨some 32, none, .bin .eql (.t 30 []) (.c (I 1))⟩,
      ⟨some 31, none, .take false (.t 32 [])⟩] [32])
    (.cond (.t 31 [])
     (.pre [.kill [2, 3, 30, 31]] (.seq (.region [⟨some 4, none, .take false (.c (.bool true))⟩] [])
     .ret))
     (.pre [.kill [31]] (.seq (.region [⟨some 34, none, .bin .eql (.t 30 []) (.c (I 2))⟩,
       ⟨some 33, none, .take false (.t 34 [])⟩] [34])
     (.cond (.t 33 [])
      (.pre [.kill [30, 33]] (.seq (.region [⟨some 35, none, .faddr 2 (.t 3 [])⟩,
        ⟨some 36, none, .load (some 5) (.t 35 [3])⟩,
        ⟨some 37, none, .load (some 3) (.t 2 [2])⟩,
        ⟨some 38, none, .call 203 [(.t 36 []), (.t 37 [])]⟩,
        ⟨some 4, none, .take false (.t 38 [])⟩] [2, 3, 36, 37, 38])
      .ret))
      (.pre [.kill [33]] (.seq (.region [⟨some 40, none, .bin .eql (.t 30 []) (.c (I 3))⟩,
        ⟨some 39, none, .take false (.t 40 [])⟩] [40])
      (.cond (.t 39 [])
       (.pre [.kill [30, 39]] (.seq (.region [⟨some 41, none, .faddr 0 (.t 2 [])⟩,
         ⟨some 42, none, .load none (.t 41 [2])⟩,
         ⟨some 43, none, .bin .eql (.t 42 []) (.c (I 1))⟩,
         ⟨some 44, none, .mv false (.t 43 [])⟩,
         ⟨some 45, some (44, true), .faddr 1 (.t 3 [])⟩,
         ⟨some 46, some (44, true), .load none (.t 45 [3])⟩,
         ⟨some 47, some (44, true), .call 63 [(.t 46 []), (.c (I (-1000))), (.c (I 1000))]⟩,
         ⟨some 48, none, .pick (.t 44 []) (.t 47 []) (.c (.bool false))⟩,
         ⟨some 4, none, .take false (.t 48 [])⟩] [2, 3, 42, 43, 44, 45, 46, 47, 48])
       .ret))
       (.pre [.kill [3, 39]] (.seq (.region [⟨some 50, none, .bin .eql (.t 30 []) (.c (I 4))⟩,
         ⟨some 49, none, .take false (.t 50 [])⟩] [30, 50])
       (.cond (.t 49 [])
        (.pre [.kill [49]] (.seq (.region [⟨some 51, none, .faddr 0 (.t 2 [])⟩,
          ⟨some 52, none, .load none (.t 51 [2])⟩,
          ⟨some 53, none, .bin .eql (.t 52 []) (.c (I 2))⟩,
          ⟨some 4, none, .take false (.t 53 [])⟩] [2, 52, 53])
        .ret))
        (.pre [.kill [2, 49]] .skip))))))))))))))
  (.seq (.region [⟨some 4, none, .take false (.c (.bool false))⟩] [])
  .ret))))),
  [(4, none)], [(false, .deep)]⟩

def a_impl_IsAction : AFunc := ⟨[true, true], 61,
  (.pre [.kill [2, 3, 4, 5, 6, 7, 8, 9, 10, 11, 12, 13, 14, 15, 16, 17, 18, 19, 20, 21, 22, 23, 24, 25, 26, 27, 28, 29, 30, 31, 32, 33, 34, 35, 36, 37, 38, 39, 40, 41, 42, 43, 44, 45, 46, 47, 48, 49, 50, 51, 52, 53, 54, 55, 56, 57, 58, 59, 60]] (.seq (.region [⟨some 2, none, .box false (.t 0 [])⟩,
    ⟨some 3, none, .box false (.t 1 [])⟩,
    ⟨some 4, none, .take false (.c (.bool false))⟩] [0, 1, 4])
  (.seq (.seq (.region [⟨some 5, none, .load (some 3) (.t 2 [2])⟩,
     ⟨some 6, none, .call 189 [(.t 5 [])]⟩,
     ⟨some 7, none, .un .not (.t 6 [])⟩] [5, 6])
   (.cond (.t 7 [])
    (.pre [.kill [2, 3, 7]] (.seq (.region [⟨some 4, none, .take false (.c (.bool false))⟩] [])
    .ret))
    (.pre [.kill [7]] .skip)))
  (.seq (.seq (.region [⟨some 8, none, .faddr 0 (.t 3 [])⟩,
     ⟨some 9, none, .load none (.t 8 [3])⟩] [8])
   (.block 0 (.seq (.region [⟨some 11, none, .bin .eql (.t 9 []) (.c (I 1))⟩,
      ⟨some 10, none, .take false (.t 11 [])⟩] [11])
    (.cond (.t 10 [])
     (.pre [.kill [2, 9, 10]] (.seq (.region [⟨some 12, none, .faddr 1 (.t 3 [])⟩,
       ⟨some 13, none, .load none (.t 12 [3])⟩,
       ⟨some 14, none, .bin .eql (.t 13 []) (.c (I 0))⟩,
       ⟨some 15, none, .mv false (.t 14 [])⟩,
       ⟨some 16, some (15, true), .faddr 2 (.t 3 [])⟩,
       ⟨some 17, some (15, true), .load (some 5) (.t 16 [3])⟩,
       ⟨some 18, some (15, true), .call 204 [(.t 17 [])]⟩,
       ⟨some 19, none, .pick (.t 15 []) (.t 18 []) (.c (.bool false))⟩,
       ⟨some 4, none, .take false (.t 19 [])⟩] [3, 13, 14, 15, 16, 17, 18, 19])
     .ret))
     (.pre [.kill [10]] (.seq (.region [⟨some 21, none, .bin .eql (.t 9 []) (.c (I 2))⟩,
       ⟨some 20, none, .take false (.t 21 [])⟩] [21])
     (.cond (.t 20 [])
      (.pre [.kill [9, 20]] (.seq (.region [⟨some 22, none, .faddr 1 (.t 3 [])⟩,
        ⟨some 23, none, .load none (.t 22 [3])⟩,
        ⟨some 24, none, .bin .eql (.t 23 []) (.c (I 0))⟩,
        ⟨some 25, none, .mv false (.t 24 [])⟩,
        ⟨some 26, some (25, true), .faddr 2 (.t 3 [])⟩,
        ⟨some 27, some (25, true), .load (some 5) (.t 26 [3])⟩,
        ⟨some 28, some (25, true), .load (some 3) (.t 2 [2])⟩,
        ⟨some 29, some (25, true), .call 205 [(.t 27 []), (.t 28 [])]⟩,
        ⟨some 30, none, .pick (.t 25 []) (.t 29 []) (.c (.bool false))⟩,
        ⟨some 4, none, .take false (.t 30 [])⟩] [2, 3, 23, 24, 25, 26, 27, 28, 29, 30])
      .ret))
      (.pre [.kill [20]] (.seq (.region [⟨some 32, none, .bin .eql (.t 9 []) (.c (I 3))⟩,
        ⟨some 31, none, .take false (.t 32 [])⟩] [32])
      (.cond (.t 31 [])
       (.pre [.kill [9, 31]] (.seq (.region [⟨some 33, none, .faddr 0 (.t 2 [])⟩,
         ⟨some 34, none, .load none (.t 33 [2])⟩,
         ⟨some 35, none, .bin .eql (.t 34 []) (.c (I 1))⟩,
         ⟨some 36, none, .mv false (.t 35 [])⟩,
         ⟨some 37, some (36, true), .faddr 1 (.t 3 [])⟩,
         ⟨some 38, some (36, true), .load none (.t 37 [3])⟩,
         ⟨some 39, some (36, true), .call 80 [(.t 38 [])]⟩,
         ⟨some 40, none, .pick (.t 36 []) (.t 39 []) (.c (.bool false))⟩,
         ⟨some 41, none, .mv false (.t 40 [])⟩,
         ⟨some 42, some (41, true), .faddr 2 (.t 3 [])⟩,
         ⟨some 43, some (41, true), .load (some 5) (.t 42 [3])⟩,
         ⟨some 44, some (41, true), .call 204 [(.t 43 [])]⟩,
         ⟨some 45, none, .pick (.t 41 []) (.t 44 []) (.c (.bool false))⟩,
         ⟨some 4, none, .take false (.t 45 [])⟩] [2, 3, 34, 35, 36, 37, 38, 39, 40, 41, 42, 43, 44, 45])
       .ret))
       (.pre [.kill [31]] (.seq (.region [⟨some 47, none, .bin .eql (.t 9 []) (.c (I 4))⟩,
         ⟨some 46, none, .take false (.t 47 [])⟩] [9, 47])
       (.cond (.t 46 [])
        (.pre [.kill [46]] (.seq (.region [⟨some 48, none, .faddr 0 (.t 2 [])⟩,
          ⟨some 49, none, .load none (.t 48 [2])⟩,
          ⟨some 50, none, .bin .eql (.t 49 []) (.c (I 2))⟩,
          ⟨some 51, none, .mv false (.t 50 [])⟩,
          ⟨some 52, some (51, true), .faddr 1 (.t 3 [])⟩,
          ⟨some 53, some (51, true), .load none (.t 52 [3])⟩,
          ⟨some 54, some (51, true), .bin .eql (.t 53 []) (.c (I 0))⟩,
          ⟨some 55, none, .pick (.t 51 []) (.t 54 []) (.c (.bool false))⟩,
          ⟨some 56, none, .mv false (.t 55 [])⟩,
          ⟨some 57, some (56, true), .faddr 2 (.t 3 [])⟩,
          ⟨some 58, some (56, true), .load (some 5) (.t 57 [3])⟩,
          ⟨some 59, some (56, true), .call 204 [(.t 58 [])]⟩,
          ⟨some 60, none, .pick (.t 56 []) (.t 59 []) (.c (.bool false))⟩,
          ⟨some 4, none, .take false (.t 60 [])⟩] [2, 3, 49, 50, 51, 52, 53, 54, 55, 56, 57, 58, 59, 60])
        .ret))
        (.pre [.kill [2, 3, 46]] .skip))))))))))))))
  (.seq (.region [⟨some 4, none, .take false (.c (.bool false))⟩] [])
  .ret))))),
  [(4, none)], [(false, .deep)]⟩

def a_laws_eqType : AFunc := ⟨[true, true], 22,
  (.pre [.kill [2, 3, 4, 5, 6, 7, 8, 9, 10, 11, 12, 13, 14, 15, 16, 17, 18, 19, 20, 21]] (.seq (.region [⟨some 2, none, .box false (.t 0 [])⟩,
    ⟨some 3, none, .box false (.t 1 [])⟩,
    ⟨some 4, none, .take false (.c (.bool false))⟩] [0, 1, 4])
  (.seq (.seq (.region [⟨some 5, none, .faddr 0 (.t 2 [])⟩,
     ⟨some 6, none, .load none (.t 5 [2])⟩,
     ⟨some 7, none, .faddr 0 (.t 3 [])⟩,
     ⟨some 8, none, .load none (.t 7 [3])⟩,
     ⟨some 9, none, .bin .neq (.t 6 []) (.t 8 [])⟩] [5, 6, 7, 8])
   (.cond (.t 9 [])
    (.pre [.kill [2, 3, 9]] (.seq (.region [⟨some 4, none, .take false (.c (.bool false))⟩] [])
    .ret))
    (.pre [.kill [9]] .skip)))
  (.seq (.seq (.region [⟨some 10, none, .faddr 1 (.t 2 [])⟩,
     ⟨some 11, none, .load none (.t 10 [2])⟩,
     ⟨some 12, none, .faddr 1 (.t 3 [])⟩,
     ⟨some 13, none, .load none (.t 12 [3])⟩,
     ⟨some 14, none, .call 103 [(.t 11 []), (.t 13 [])]⟩,
     ⟨some 15, none, .un .not (.t 14 [])⟩] [10, 11, 12, 13, 14])
   (.cond (.t 15 [])
    (.pre [.kill [2, 3, 15]] (.seq (.region [⟨some 4, none, .take false (.c (.bool false))⟩] [])
    .ret))
    (.pre [.kill [15]] .skip)))
  (.seq (.seq (.region [⟨some 16, none, .faddr 2 (.t 2 [])⟩,
     ⟨some 17, none, .load none (.t 16 [2])⟩,
     ⟨some 18, none, .faddr 2 (.t 3 [])⟩,
     ⟨some 19, none, .load none (.t 18 [3])⟩,
     ⟨some 20, none, .call 192 [(.t 17 []), (.t 19 [])]⟩,
     ⟨some 21, none, .un .not (.t 20 [])⟩] [2, 3, 17, 19, 20])
   (.cond (.t 21 [])
    (.pre [.kill [21]] (.seq (.region [⟨some 4, none, .take false (.c (.bool false))⟩] [])
    .ret))
    (.pre [.kill [21]] .skip)))
  (.seq (.region [⟨some 4, none, .take false (.c (.bool true))⟩] [])
  .ret)))))),
  [(4, none)], [(false, .deep)]⟩

def a_laws_eqAction : AFunc := ⟨[true, true], 21,
  (.pre [.kill [2, 3, 4, 5, 6, 7, 8, 9, 10, 11, 12, 13, 14, 15, 16, 17, 18, 19, 20]] (.seq (.region [⟨some 2, none, .box false (.t 0 [])⟩,
    ⟨some 3, none, .box false (.t 1 [])⟩,
    ⟨some 4, none, .take false (.c (.bool false))⟩] [0, 1, 4])
  (.seq (.seq (.region [⟨some 5, none, .faddr 0 (.t 2 [])⟩,
     ⟨some 6, none, .load none (.t 5 [2])⟩,
     ⟨some 7, none, .faddr 0 (.t 3 [])⟩,
     ⟨some 8, none, .load none (.t 7 [3])⟩,
     ⟨some 9, none, .bin .neq (.t 6 []) (.t 8 [])⟩] [5, 6, 7, 8])
   (.cond (.t 9 [])
    (.pre [.kill [2, 3, 9]] (.seq (.region [⟨some 4, none, .take false (.c (.bool false))⟩] [])
    .ret))
    (.pre [.kill [9]] .skip)))
  (.seq (.seq (.region [⟨some 10, none, .faddr 1 (.t 2 [])⟩,
     ⟨some 11, none, .load none (.t 10 [2])⟩,
     ⟨some 12, none, .faddr 1 (.t 3 [])⟩,
     ⟨some 13, none, .load none (.t 12 [3])⟩,
     ⟨some 14, none, .bin .neq (.t 11 []) (.t 13 [])⟩] [10, 11, 12, 13])
   (.cond (.t 14 [])
    (.pre [.kill [2, 3, 14]] (.seq (.region [⟨some 4, none, .take false (.c (.bool false))⟩] [])
    .ret))
    (.pre [.kill [14]] .skip)))
  (.seq (.seq (.region [⟨some 15, none, .faddr 2 (.t 2 [])⟩,
     ⟨some 16, none, .load (some 5) (.t 15 [2])⟩,
     ⟨some 17, none, .faddr 2 (.t 3 [])⟩,
     ⟨some 18, none, .load (some 5) (.t 17 [3])⟩,
     ⟨some 19, none, .call 81 [(.t 16 []), (.t 18 [])]⟩,
     ⟨some 20, none, .un .not (.t 19 [])⟩] [2, 3, 16, 18, 19])
   (.cond (.t 20 [])
    (.pre [.kill [20]] (.seq (.region [⟨some 4, none, .take false (.c (.bool false))⟩] [])
    .ret))
    (.pre [.kill [20]] .skip)))
  (.seq (.region [⟨some 4, none, .take false (.c (.bool true))⟩] [])
  .ret)))))),
  [(4, none)], [(false, .deep)]⟩

def a_laws_szStringS : AFunc := ⟨[false, false], 28,
  (.pre [.kill [2, 3, 4, 5, 6, 7, 8, 9, 10, 11, 12, 13, 14, 15, 16, 17, 18, 19, 20, 21, 22, 23, 24, 25, 26, 27]] (.seq (.region [⟨some 4, none, .take false (.c (I 0))⟩] [4])
  (.seq (.region [⟨some 6, none, .mv false (.t 1 [])⟩,
    ⟨some 7, none, .mv false (.t 0 [])⟩,
    ⟨some 8, none, .len (.t 7 [])⟩,
    ⟨some 9, none, .bin .sub (.t 6 []) (.t 8 [])⟩,
    ⟨some 1, none, .take false (.t 9 [])⟩] [6, 7, 8, 9])
  (.seq (.seq (.region [⟨some 10, none, .mv false (.t 1 [])⟩,
     ⟨some 11, none, .bin .lss (.t 10 []) (.c (I 0))⟩] [10])
   (.cond (.t 11 [])
    (.pre [.kill [0, 1, 11]] (.seq (.region [⟨some 4, none, .take false (.c (I (-1)))⟩] [])
    .ret))
    (.pre [.kill [11]] .skip)))
  (.seq (.seq (.region [⟨some 5, none, .take false (.c (I 0))⟩] [])
   (.block 0 (.pre [.kill [4, 12, 13, 14, 15, 16, 17, 18, 19, 20, 21, 22, 23, 24, 25, 26]] (.loop (.seq (.seq (.region [⟨some 12, none, .mv false (.t 5 [])⟩,
        ⟨some 13, none, .mv false (.t 0 [])⟩,
        ⟨some 14, none, .len (.t 13 [])⟩,
        ⟨some 15, none, .bin .lss (.t 12 []) (.t 14 [])⟩] [12, 13, 14])
      (.cond (.t 15 [])
       (.pre [.kill [15]] .skip)
       (.pre [.kill [0, 5, 15]] (.exit 0))))
     (.seq (.block 1 (.seq (.region [⟨some 18, none, .mv false (.t 1 [])⟩,
         ⟨some 19, none, .mv false (.t 0 [])⟩,
         ⟨some 20, none, .mv false (.t 5 [])⟩,
         ⟨some 21, none, .iaddr 1 (.t 19 []) (.t 20 [])⟩,
         ⟨some 22, none, .load none (.t 21 [])⟩,
         ⟨some 23, none, .lenS (.t 22 [])⟩,
         ⟨some 24, none, .bin .sub (.t 18 []) (.t 23 [])⟩,
         ⟨some 1, none, .take false (.t 24 [])⟩] [18, 19, 20, 21, 22, 23, 24])
       (.seq (.region [⟨some 25, none, .mv false (.t 1 [])⟩,
         ⟨some 26, none, .bin .lss (.t 25 []) (.c (I 0))⟩] [25])
       (.cond (.t 26 [])
        (.pre [.kill [0, 1, 5, 26]] (.seq (.region [⟨some 4, none, .take false (.c (I (-1)))⟩] [])
        .ret))
        (.pre [.kill [26]] .skip)))))
     (.region [⟨some 16, none, .mv false (.t 5 [])⟩,
      ⟨some 17, none, .bin .add (.t 16 []) (.c (I 1))⟩,
      ⟨some 5, none, .take false (.t 17 [])⟩] [16, 17])))))))
  (.seq (.region [⟨some 27, none, .mv false (.t 1 [])⟩,
    ⟨some 4, none, .take false (.t 27 [])⟩] [1, 27])
  .ret)))))),
  [(4, none)], [(false, .deep)]⟩

def a_laws_szTypeS : AFunc := ⟨[false, false], 27,
  (.pre [.kill [2, 3, 4, 5, 6, 7, 8, 9, 10, 11, 12, 13, 14, 15, 16, 17, 18, 19, 20, 21, 22, 23, 24, 25, 26]] (.seq (.region [⟨some 4, none, .take false (.c (I 0))⟩] [4])
  (.seq (.region [⟨some 6, none, .mv false (.t 1 [])⟩,
    ⟨some 7, none, .mv false (.t 0 [])⟩,
    ⟨some 8, none, .len (.t 7 [])⟩,
    ⟨some 9, none, .bin .sub (.t 6 []) (.t 8 [])⟩,
    ⟨some 1, none, .take false (.t 9 [])⟩] [6, 7, 8, 9])
  (.seq (.seq (.region [⟨some 10, none, .mv false (.t 1 [])⟩,
     ⟨some 11, none, .bin .lss (.t 10 []) (.c (I 0))⟩] [10])
   (.cond (.t 11 [])
    (.pre [.kill [0, 1, 11]] (.seq (.region [⟨some 4, none, .take false (.c (I (-1)))⟩] [])
    .ret))
    (.pre [.kill [11]] .skip)))
  (.seq (.seq (.region [⟨some 5, none, .take false (.c (I 0))⟩] [])
   (.block 0 (.pre [.kill [4, 12, 13, 14, 15, 16, 17, 18, 19, 20, 21, 22, 23, 24, 25]] (.loop (.seq (.seq (.region [⟨some 12, none, .mv false (.t 5 [])⟩,
        ⟨some 13, none, .mv false (.t 0 [])⟩,
        ⟨some 14, none, .len (.t 13 [])⟩,
        ⟨some 15, none, .bin .lss (.t 12 []) (.t 14 [])⟩] [12, 13, 14])
      (.cond (.t 15 [])
       (.pre [.kill [15]] .skip)
       (.pre [.kill [0, 5, 15]] (.exit 0))))
     (.seq (.block 1 (.seq (.region [⟨some 18, none, .mv false (.t 0 [])⟩,
         ⟨some 19, none, .mv false (.t 5 [])⟩,
         ⟨some 20, none, .iaddr 3 (.t 18 []) (.t 19 [])⟩,
         ⟨some 21, none, .load (some 3) (.t 20 [])⟩,
         ⟨some 22, none, .mv false (.t 1 [])⟩,
         ⟨some 23, none, .call 157 [(.t 21 []), (.t 22 [])]⟩,
         ⟨some 1, none, .take false (.t 23 [])⟩] [18, 19, 20, 21, 22, 23])
       (.seq (.region [⟨some 24, none, .mv false (.t 1 [])⟩,
         ⟨some 25, none, .bin .lss (.t 24 []) (.c (I 0))⟩] [24])
       (.cond (.t 25 [])
        (.pre [.kill [0, 1, 5, 25]] (.seq (.region [⟨some 4, none, .take false (.c (I (-1)))⟩] [])
        .ret))
        (.pre [.kill [25]] .skip)))))
     (.region [⟨some 16, none, .mv false (.t 5 [])⟩,
      ⟨some 17, none, .bin .add (.t 16 []) (.c (I 1))⟩,
      ⟨some 5, none, .take false (.t 17 [])⟩] [16, 17])))))))
  (.seq (.region [⟨some 26, none, .mv false (.t 1 [])⟩,
    ⟨some 4, none, .take false (.t 26 [])⟩] [1, 26])
  .ret)))))),
  [(4, none)], [(false, .deep)]⟩

def a_laws_szValue : AFunc := ⟨[true, false], 25,
  (.pre [.kill [2, 3, 4, 5, 6, 7, 8, 9, 10, 11, 12, 13, 14, 15, 16, 17, 18, 19, 20, 21, 22, 23, 24]] (.seq (.region [⟨some 2, none, .box false (.t 0 [])⟩,
    ⟨some 4, none, .take false (.c (I 0))⟩] [0, 4])
  (.seq (.region [⟨some 5, none, .mv false (.t 1 [])⟩,
    ⟨some 6, none, .faddr 2 (.t 2 [])⟩,
    ⟨some 7, none, .load none (.t 6 [2])⟩,
    ⟨some 8, none, .lenS (.t 7 [])⟩,
    ⟨some 9, none, .bin .sub (.t 5 []) (.t 8 [])⟩,
    ⟨some 1, none, .take false (.t 9 [])⟩] [5, 6, 7, 8, 9])
  (.seq (.seq (.region [⟨some 10, none, .mv false (.t 1 [])⟩,
     ⟨some 11, none, .bin .lss (.t 10 []) (.c (I 0))⟩] [10])
   (.cond (.t 11 [])
    (.pre [.kill [1, 2, 11]] (.seq (.region [⟨some 4, none, .take false (.c (I (-1)))⟩] [])
    .ret))
    (.pre [.kill [11]] .skip)))
  (.seq (.region [⟨some 12, none, .faddr 3 (.t 2 [])⟩,
    ⟨some 13, none, .load none (.t 12 [2])⟩,
    ⟨some 14, none, .mv false (.t 1 [])⟩,
    ⟨some 15, none, .call 97 [(.t 13 []), (.t 14 [])]⟩,
    ⟨some 1, none, .take false (.t 15 [])⟩] [12, 13, 14, 15])
  (.seq (.seq (.region [⟨some 16, none, .mv false (.t 1 [])⟩,
     ⟨some 17, none, .bin .lss (.t 16 []) (.c (I 0))⟩] [16])
   (.cond (.t 17 [])
    (.pre [.kill [1, 2, 17]] (.seq (.region [⟨some 4, none, .take false (.c (I (-1)))⟩] [])
    .ret))
    (.pre [.kill [17]] .skip)))
  (.seq (.region [⟨some 18, none, .faddr 4 (.t 2 [])⟩,
    ⟨some 19, none, .load none (.t 18 [2])⟩,
    ⟨some 20, none, .mv false (.t 1 [])⟩,
    ⟨some 21, none, .call 98 [(.t 19 []), (.t 20 [])]⟩,
    ⟨some 1, none, .take false (.t 21 [])⟩] [2, 19, 20, 21])
  (.seq (.seq (.region [⟨some 22, none, .mv false (.t 1 [])⟩,
     ⟨some 23, none, .bin .lss (.t 22 []) (.c (I 0))⟩] [22])
   (.cond (.t 23 [])
    (.pre [.kill [1, 23]] (.seq (.region [⟨some 4, none, .take false (.c (I (-1)))⟩] [])
    .ret))
    (.pre [.kill [23]] .skip)))
  (.seq (.region [⟨some 24, none, .mv false (.t 1 [])⟩,
    ⟨some 4, none, .take false (.t 24 [])⟩] [1, 24])
  .ret))))))))),
  [(4, none)], [(false, .deep)]⟩

def a_laws_toStringS : AFunc := ⟨[false], 22,
  (.pre [.kill [1, 2, 3, 4, 5, 6, 7, 8, 9, 10, 11, 12, 13, 14, 15, 16, 17, 18, 19, 20, 21]] (.seq (.region [⟨some 2, none, .take false (.c (Z 1))⟩] [2])
  (.seq (.region [⟨some 5, none, .mv false (.t 0 [])⟩,
    ⟨some 6, none, .len (.t 5 [])⟩,
    ⟨some 7, none, .make .deep 1 [S0] (.t 6 [])⟩,
    ⟨some 3, none, .take false (.t 7 [])⟩] [5, 6, 7])
  (.seq (.seq (.region [⟨some 4, none, .take false (.c (I 0))⟩] [])
   (.block 0 (.pre [.kill [8, 9, 10, 11, 12, 13, 14, 15, 16, 17, 18, 19, 20]] (.loop (.seq (.seq (.region [⟨some 8, none, .mv false (.t 4 [])⟩,
        ⟨some 9, none, .mv false (.t 0 [])⟩,
        ⟨some 10, none, .len (.t 9 [])⟩,
        ⟨some 11, none, .bin .lss (.t 8 []) (.t 10 [])⟩] [8, 9, 10])
      (.cond (.t 11 [])
       (.pre [.kill [11]] .skip)
       (.pre [.kill [0, 4, 11]] (.exit 0))))
     (.seq (.block 1 (.region [⟨some 14, none, .mv false (.t 3 [])⟩,
        ⟨some 15, none, .mv false (.t 4 [])⟩,
        ⟨some 16, none, .mv false (.t 0 [])⟩,
        ⟨some 17, none, .mv false (.t 4 [])⟩,
        ⟨some 18, none, .iaddr 1 (.t 16 []) (.t 17 [])⟩,
        ⟨some 19, none, .load none (.t 18 [])⟩,
        ⟨some 20, none, .iaddr 1 (.t 14 [3]) (.t 15 [])⟩,
        ⟨none, none, .store 1 (.t 20 [3]) (.t 19 [])⟩] [14, 15, 16, 17, 18, 19]))
     (.region [⟨some 12, none, .mv false (.t 4 [])⟩,
      ⟨some 13, none, .bin .add (.t 12 []) (.c (I 1))⟩,
      ⟨some 4, none, .take false (.t 13 [])⟩] [12, 13])))))))
  (.seq (.region [⟨some 21, none, .mv false (.t 3 [])⟩,
    ⟨some 2, none, .take false (.t 21 [3])⟩] [3, 21])
  .ret))))),
  [(2, none)], [(false, .deep)]⟩

def a_laws_toTypeS : AFunc := ⟨[false], 23,
  (.pre [.kill [1, 2, 3, 4, 5, 6, 7, 8, 9, 10, 11, 12, 13, 14, 15, 16, 17, 18, 19, 20, 21, 22]] (.seq (.region [⟨some 2, none, .take false (.c (Z 3))⟩] [2])
  (.seq (.region [⟨some 5, none, .mv false (.t 0 [])⟩,
    ⟨some 6, none, .len (.t 5 [])⟩,
    ⟨some 7, none, .make .deep 3 [I0, (Z 1), (Z 3)] (.t 6 [])⟩,
    ⟨some 3, none, .take false (.t 7 [])⟩] [5, 6, 7])
  (.seq (.seq (.region [⟨some 4, none, .take false (.c (I 0))⟩] [])
   (.block 0 (.pre [.kill [8, 9, 10, 11, 12, 13, 14, 15, 16, 17, 18, 19, 20, 21]] (.loop (.seq (.seq (.region [⟨some 8, none, .mv false (.t 4 [])⟩,
        ⟨some 9, none, .mv false (.t 0 [])⟩,
        ⟨some 10, none, .len (.t 9 [])⟩,
        ⟨some 11, none, .bin .lss (.t 8 []) (.t 10 [])⟩] [8, 9, 10])
      (.cond (.t 11 [])
       (.pre [.kill [11]] .skip)
       (.pre [.kill [0, 4, 11]] (.exit 0))))
     (.seq (.block 1 (.region [⟨some 14, none, .mv false (.t 3 [])⟩,
        ⟨some 15, none, .mv false (.t 4 [])⟩,
        ⟨some 16, none, .mv false (.t 0 [])⟩,
        ⟨some 17, none, .mv false (.t 4 [])⟩,
        ⟨some 18, none, .iaddr 3 (.t 16 []) (.t 17 [])⟩,
        ⟨some 19, none, .load (some 3) (.t 18 [])⟩,
        ⟨some 20, none, .call 159 [(.t 19 [])]⟩,
        ⟨some 21, none, .iaddr 3 (.t 14 [3]) (.t 15 [])⟩,
        ⟨none, none, .store 3 (.t 21 [3]) (.t 20 [])⟩] [14, 15, 16, 17, 18, 19, 20]))
     (.region [⟨some 12, none, .mv false (.t 4 [])⟩,
      ⟨some 13, none, .bin .add (.t 12 []) (.c (I 1))⟩,
      ⟨some 4, none, .take false (.t 13 [])⟩] [12, 13])))))))
  (.seq (.region [⟨some 22, none, .mv false (.t 3 [])⟩,
    ⟨some 2, none, .take false (.t 22 [3])⟩] [3, 22])
  .ret))))),
  [(2, none)], [(false, .deep)]⟩

def a_laws_toValue : AFunc := ⟨[true], 22,
  (.pre [.kill [1, 2, 3, 4, 5, 6, 7, 8, 9, 10, 11, 12, 13, 14, 15, 16, 17, 18, 19, 20, 21]] (.seq (.region [⟨some 1, none, .box false (.t 0 [])⟩,
    ⟨some 2, none, .alloc false [I0, I0, S0, (Z 1), (Z 5)] [.deep, .deep, .deep, .deep, .deep]⟩] [0])
  (.seq (.region [⟨some 3, none, .alloc false [I0, I0, S0, (Z 1), (Z 5)] [.deep, .deep, .deep, .deep, .deep]⟩] [])
  (.seq (.region [⟨some 4, none, .faddr 0 (.t 1 [])⟩,
    ⟨some 5, none, .load none (.t 4 [1])⟩,
    ⟨some 6, none, .faddr 0 (.t 3 [])⟩,
    ⟨none, none, .store 1 (.t 6 [3]) (.t 5 [])⟩] [4, 5, 6])
  (.seq (.region [⟨some 7, none, .faddr 1 (.t 1 [])⟩,
    ⟨some 8, none, .load none (.t 7 [1])⟩,
    ⟨some 9, none, .faddr 1 (.t 3 [])⟩,
    ⟨none, none, .store 1 (.t 9 [3]) (.t 8 [])⟩] [7, 8, 9])
  (.seq (.region [⟨some 10, none, .faddr 2 (.t 1 [])⟩,
    ⟨some 11, none, .load none (.t 10 [1])⟩,
    ⟨some 12, none, .faddr 2 (.t 3 [])⟩,
    ⟨none, none, .store 1 (.t 12 [3]) (.t 11 [])⟩] [10, 11, 12])
  (.seq (.region [⟨some 13, none, .faddr 3 (.t 1 [])⟩,
    ⟨some 14, none, .load none (.t 13 [1])⟩,
    ⟨some 15, none, .call 100 [(.t 14 [])]⟩,
    ⟨some 16, none, .faddr 3 (.t 3 [])⟩,
    ⟨none, none, .store 1 (.t 16 [3]) (.t 15 [])⟩] [13, 14, 15, 16])
  (.seq (.region [⟨some 17, none, .faddr 4 (.t 1 [])⟩,
    ⟨some 18, none, .load none (.t 17 [1])⟩,
    ⟨some 19, none, .call 101 [(.t 18 [])]⟩,
    ⟨some 20, none, .faddr 4 (.t 3 [])⟩,
    ⟨none, none, .store 1 (.t 20 [3]) (.t 19 [])⟩] [1, 18, 19, 20])
  (.seq (.region [⟨some 21, none, .load (some 5) (.t 3 [3])⟩,
    ⟨none, none, .store 5 (.t 2 [2]) (.t 21 [3])⟩] [3, 21])
  .ret))))))))),
  [(2, some 5)], [(true, .deep)]⟩

def a_spec_IsValidType : AFunc := ⟨[true], 15,
  (.pre [.kill [1, 2, 3, 4, 5, 6, 7, 8, 9, 10, 11, 12, 13, 14]] (.seq (.region [⟨some 1, none, .box false (.t 0 [])⟩,
    ⟨some 2, none, .take false (.c (.bool false))⟩] [0, 2])
  (.seq (.region [⟨some 3, none, .load (some 3) (.t 1 [1])⟩,
    ⟨some 4, none, .call 219 [(.t 3 []), (.c (I 30))]⟩,
    ⟨some 5, none, .bin .geq (.t 4 []) (.c (I 0))⟩,
    ⟨some 6, none, .mv false (.t 5 [])⟩,
    ⟨some 7, some (6, true), .load (some 3) (.t 1 [1])⟩,
    ⟨some 8, some (6, true), .call 220 [(.t 7 [])]⟩,
    ⟨some 9, some (6, true), .bin .leq (.t 8 []) (.c (I 8))⟩,
    ⟨some 10, none, .pick (.t 6 []) (.t 9 []) (.c (.bool false))⟩,
    ⟨some 11, none, .mv false (.t 10 [])⟩,
    ⟨some 12, some (11, true), .load (some 3) (.t 1 [1])⟩,
    ⟨some 13, some (11, true), .call 221 [(.t 12 [])]⟩,
    ⟨some 14, none, .pick (.t 11 []) (.t 13 []) (.c (.bool false))⟩,
    ⟨some 2, none, .take false (.t 14 [])⟩] [1, 3, 4, 5, 6, 7, 8, 9, 10, 11, 12, 13, 14])
  .ret))),
  [(2, none)], [(false, .deep)]⟩

def a_spec_l14None : AFunc := ⟨[true], 28,
  (.pre [.kill [1, 2, 3, 4, 5, 6, 7, 8, 9, 10, 11, 12, 13, 14, 15, 16, 17, 18, 19, 20, 21, 22, 23, 24, 25, 26, 27]] (.seq (.region [⟨some 1, none, .box false (.t 0 [])⟩,
    ⟨some 2, none, .take false (.c (.bool false))⟩] [0, 2])
  (.seq (.region [⟨some 3, none, .faddr 0 (.t 1 [])⟩,
    ⟨some 4, none, .load none (.t 3 [1])⟩,
    ⟨some 5, none, .bin .eql (.t 4 []) (.c (I 0))⟩,
    ⟨some 6, none, .mv false (.t 5 [])⟩,
    ⟨some 7, some (6, true), .faddr 1 (.t 1 [])⟩,
    ⟨some 8, some (6, true), .load none (.t 7 [1])⟩,
    ⟨some 9, some (6, true), .bin .eql (.t 8 []) (.c (I 0))⟩,
    ⟨some 10, none, .pick (.t 6 []) (.t 9 []) (.c (.bool false))⟩,
    ⟨some 11, none, .mv false (.t 10 [])⟩,
    ⟨some 12, some (11, true), .faddr 2 (.t 1 [])⟩,
    ⟨some 13, some (11, true), .load none (.t 12 [1])⟩,
    ⟨some 14, some (11, true), .bin .eql (.t 13 []) (.c (.str ⟨#[]⟩))⟩,
    ⟨some 15, none, .pick (.t 11 []) (.t 14 []) (.c (.bool false))⟩,
    ⟨some 16, none, .mv false (.t 15 [])⟩,
    ⟨some 17, some (16, true), .faddr 3 (.t 1 [])⟩,
    ⟨some 18, some (16, true), .load none (.t 17 [1])⟩,
    ⟨some 19, some (16, true), .len (.t 18 [])⟩,
    ⟨some 20, some (16, true), .bin .eql (.t 19 []) (.c (I 0))⟩,
    ⟨some 21, none, .pick (.t 16 []) (.t 20 []) (.c (.bool false))⟩,
    ⟨some 22, none, .mv false (.t 21 [])⟩,
    ⟨some 23, some (22, true), .faddr 4 (.t 1 [])⟩,
    ⟨some 24, some (22, true), .load none (.t 23 [1])⟩,
    ⟨some 25, some (22, true), .len (.t 24 [])⟩,
    ⟨some 26, some (22, true), .bin .eql (.t 25 []) (.c (I 0))⟩,
    ⟨some 27, none, .pick (.t 22 []) (.t 26 []) (.c (.bool false))⟩,
    ⟨some 2, none, .take false (.t 27 [])⟩] [1, 4, 5, 6, 7, 8, 9, 10, 11, 12, 13, 14, 15, 16, 17, 18, 19, 20, 21, 22, 23, 24, 25, 26, 27])
  .ret))),
  [(2, none)], [(false, .deep)]⟩

def a_spec_HasType : AFunc := ⟨[true, true], 16,
  (.pre [.kill [2, 3, 4, 5, 6, 7, 8, 9, 10, 11, 12, 13, 14, 15]] (.seq (.region [⟨some 2, none, .box false (.t 0 [])⟩,
    ⟨some 3, none, .box false (.t 1 [])⟩,
    ⟨some 4, none, .take false (.c (.bool false))⟩] [0, 1, 4])
  (.seq (.region [⟨some 5, none, .load (some 5) (.t 2 [2])⟩,
    ⟨some 6, none, .call 180 [(.t 5 [])]⟩,
    ⟨some 7, none, .mv false (.t 6 [])⟩,
    ⟨some 8, some (7, true), .load (some 3) (.t 3 [3])⟩,
    ⟨some 9, some (7, true), .call 185 [(.t 8 [])]⟩,
    ⟨some 10, none, .pick (.t 7 []) (.t 9 []) (.c (.bool false))⟩,
    ⟨some 11, none, .mv false (.t 10 [])⟩,
    ⟨some 12, some (11, true), .load (some 5) (.t 2 [2])⟩,
    ⟨some 13, some (11, true), .load (some 3) (.t 3 [3])⟩,
    ⟨some 14, some (11, true), .call 237 [(.t 12 []), (.t 13 [])]⟩,
    ⟨some 15, none, .pick (.t 11 []) (.t 14 []) (.c (.bool false))⟩,
    ⟨some 4, none, .take false (.t 15 [])⟩] [2, 3, 5, 6, 7, 8, 9, 10, 11, 12, 13, 14, 15])
  .ret))),
  [(4, none)], [(false, .deep)]⟩

def a_spec_l1In : AFunc := ⟨[false, false, false], 15,
  (.pre [.kill [3, 4, 5, 6, 7, 8, 9, 10, 11, 12, 13, 14]] (.seq (.region [⟨some 6, none, .take false (.c (.bool false))⟩] [6])
  (.seq (.region [⟨some 7, none, .mv false (.t 0 [])⟩,
    ⟨some 8, none, .mv false (.t 1 [])⟩,
    ⟨some 9, none, .bin .geq (.t 7 []) (.t 8 [])⟩,
    ⟨some 10, none, .mv false (.t 9 [])⟩,
    ⟨some 11, some (10, true), .mv false (.t 0 [])⟩,
    ⟨some 12, some (10, true), .mv false (.t 2 [])⟩,
    ⟨some 13, some (10, true), .bin .leq (.t 11 []) (.t 12 [])⟩,
    ⟨some 14, none, .pick (.t 10 []) (.t 13 []) (.c (.bool false))⟩,
    ⟨some 6, none, .take false (.t 14 [])⟩] [0, 1, 2, 7, 8, 9, 10, 11, 12, 13, 14])
  .ret))),
  [(6, none)], [(false, .deep)]⟩

def a_impl_IsValidType : AFunc := ⟨[true], 15,
  (.pre [.kill [1, 2, 3, 4, 5, 6, 7, 8, 9, 10, 11, 12, 13, 14]] (.seq (.region [⟨some 1, none, .box false (.t 0 [])⟩,
    ⟨some 2, none, .take false (.c (.bool false))⟩] [0, 2])
  (.seq (.region [⟨some 3, none, .load (some 3) (.t 1 [1])⟩,
    ⟨some 4, none, .call 222 [(.t 3 [])]⟩,
    ⟨some 5, none, .bin .leq (.t 4 []) (.c (I 30))⟩,
    ⟨some 6, none, .mv false (.t 5 [])⟩,
    ⟨some 7, some (6, true), .load (some 3) (.t 1 [1])⟩,
    ⟨some 8, some (6, true), .call 223 [(.t 7 [])]⟩,
    ⟨some 9, some (6, true), .bin .leq (.t 8 []) (.c (I 8))⟩,
    ⟨some 10, none, .pick (.t 6 []) (.t 9 []) (.c (.bool false))⟩,
    ⟨some 11, none, .mv false (.t 10 [])⟩,
    ⟨some 12, some (11, true), .load (some 3) (.t 1 [1])⟩,
    ⟨some 13, some (11, true), .call 224 [(.t 12 [])]⟩,
    ⟨some 14, none, .pick (.t 11 []) (.t 13 []) (.c (.bool false))⟩,
    ⟨some 2, none, .take false (.t 14 [])⟩] [1, 3, 4, 5, 6, 7, 8, 9, 10, 11, 12, 13, 14])
  .ret))),
  [(2, none)], [(false, .deep)]⟩

def a_impl_none : AFunc := ⟨[true], 6,
  (.pre [.kill [1, 2, 3, 4, 5]] (.seq (.region [⟨some 1, none, .box false (.t 0 [])⟩,
    ⟨some 2, none, .take false (.c (.bool false))⟩] [0, 2])
  (.seq (.region [⟨some 3, none, .load (some 5) (.t 1 [1])⟩,
    ⟨some 4, none, .build [I0, I0, S0, (Z 1), (Z 5)] []⟩,
    ⟨some 5, none, .call 178 [(.t 3 []), (.t 4 [])]⟩,
    ⟨some 2, none, .take false (.t 5 [])⟩] [1, 3, 4, 5])
  .ret))),
  [(2, none)], [(false, .deep)]⟩

def a_impl_HasType : AFunc := ⟨[true, true], 16,
  (.pre [.kill [2, 3, 4, 5, 6, 7, 8, 9, 10, 11, 12, 13, 14, 15]] (.seq (.region [⟨some 2, none, .box false (.t 0 [])⟩,
    ⟨some 3, none, .box false (.t 1 [])⟩,
    ⟨some 4, none, .take false (.c (.bool false))⟩] [0, 1, 4])
  (.seq (.region [⟨some 5, none, .load (some 5) (.t 2 [2])⟩,
    ⟨some 6, none, .call 182 [(.t 5 [])]⟩,
    ⟨some 7, none, .mv false (.t 6 [])⟩,
    ⟨some 8, some (7, true), .load (some 3) (.t 3 [3])⟩,
    ⟨some 9, some (7, true), .call 189 [(.t 8 [])]⟩,
    ⟨some 10, none, .pick (.t 7 []) (.t 9 []) (.c (.bool false))⟩,
    ⟨some 11, none, .mv false (.t 10 [])⟩,
    ⟨some 12, some (11, true), .load (some 5) (.t 2 [2])⟩,
    ⟨some 13, some (11, true), .load (some 3) (.t 3 [3])⟩,
    ⟨some 14, some (11, true), .call 238 [(.t 12 []), (.t 13 [])]⟩,
    ⟨some 15, none, .pick (.t 11 []) (.t 14 []) (.c (.bool false))⟩,
    ⟨some 4, none, .take false (.t 15 [])⟩] [2, 3, 5, 6, 7, 8, 9, 10, 11, 12, 13, 14, 15])
  .ret))),
  [(4, none)], [(false, .deep)]⟩

def a_impl_stepOk : AFunc := ⟨[false], 9,
  (.pre [.kill [1, 2, 3, 4, 5, 6, 7, 8]] (.seq (.region [⟨some 2, none, .take false (.c (.bool false))⟩] [2])
  (.seq (.region [⟨some 3, none, .mv false (.t 0 [])⟩,
    ⟨some 4, none, .bin .geq (.t 3 []) (.c (I (-1000)))⟩,
    ⟨some 5, none, .mv false (.t 4 [])⟩,
    ⟨some 6, some (5, true), .mv false (.t 0 [])⟩,
    ⟨some 7, some (5, true), .bin .leq (.t 6 []) (.c (I 1000))⟩,
    ⟨some 8, none, .pick (.t 5 []) (.t 7 []) (.c (.bool false))⟩,
    ⟨some 2, none, .take false (.t 8 [])⟩] [0, 3, 4, 5, 6, 7, 8])
  .ret))),
  [(2, none)], [(false, .deep)]⟩

def a_laws_eqStringS : AFunc := ⟨[false, false], 26,
  (.pre [.kill [2, 3, 4, 5, 6, 7, 8, 9, 10, 11, 12, 13, 14, 15, 16, 17, 18, 19, 20, 21, 22, 23, 24, 25]] (.seq (.region [⟨some 4, none, .take false (.c (.bool false))⟩] [4])
  (.seq (.seq (.region [⟨some 6, none, .mv false (.t 0 [])⟩,
     ⟨some 7, none, .len (.t 6 [])⟩,
     ⟨some 8, none, .mv false (.t 1 [])⟩,
     ⟨some 9, none, .len (.t 8 [])⟩,
     ⟨some 10, none, .bin .neq (.t 7 []) (.t 9 [])⟩] [6, 7, 8, 9])
   (.cond (.t 10 [])
    (.pre [.kill [0, 1, 10]] (.seq (.region [⟨some 4, none, .take false (.c (.bool false))⟩] [])
    .ret))
    (.pre [.kill [10]] .skip)))
  (.seq (.seq (.region [⟨some 5, none, .take false (.c (I 0))⟩] [])
   (.block 0 (.pre [.kill [4, 11, 12, 13, 14, 15, 16, 17, 18, 19, 20, 21, 22, 23, 24, 25]] (.loop (.seq (.seq (.region [⟨some 11, none, .mv false (.t 5 [])⟩,
        ⟨some 12, none, .mv false (.t 0 [])⟩,
        ⟨some 13, none, .len (.t 12 [])⟩,
        ⟨some 14, none, .bin .lss (.t 11 []) (.t 13 [])⟩] [11, 12, 13])
      (.cond (.t 14 [])
       (.pre [.kill [14]] .skip)
       (.pre [.kill [0, 1, 5, 14]] (.exit 0))))
     (.seq (.block 1 (.seq (.region [⟨some 17, none, .mv false (.t 0 [])⟩,
         ⟨some 18, none, .mv false (.t 5 [])⟩,
         ⟨some 19, none, .iaddr 1 (.t 17 []) (.t 18 [])⟩,
         ⟨some 20, none, .load none (.t 19 [])⟩,
         ⟨some 21, none, .mv false (.t 1 [])⟩,
         ⟨some 22, none, .mv false (.t 5 [])⟩,
         ⟨some 23, none, .iaddr 1 (.t 21 []) (.t 22 [])⟩,
         ⟨some 24, none, .load none (.t 23 [])⟩,
         ⟨some 25, none, .bin .neq (.t 20 []) (.t 24 [])⟩] [17, 18, 19, 20, 21, 22, 23, 24])
       (.cond (.t 25 [])
        (.pre [.kill [0, 1, 5, 25]] (.seq (.region [⟨some 4, none, .take false (.c (.bool false))⟩] [])
        .ret))
        (.pre [.kill [25]] .skip))))
     (.region [⟨some 15, none, .mv false (.t 5 [])⟩,
      ⟨some 16, none, .bin .add (.t 15 []) (.c (I 1))⟩,
      ⟨some 5, none, .take false (.t 16 [])⟩] [15, 16])))))))
  (.seq (.region [⟨some 4, none, .take false (.c (.bool true))⟩] [])
  .ret))))),
  [(4, none)], [(false, .deep)]⟩

def a_laws_eqTypeS : AFunc := ⟨[false, false], 27,
  (.pre [.kill [2, 3, 4, 5, 6, 7, 8, 9, 10, 11, 12, 13, 14, 15, 16, 17, 18, 19, 20, 21, 22, 23, 24, 25, 26]] (.seq (.region [⟨some 4, none, .take false (.c (.bool false))⟩] [4])
  (.seq (.seq (.region [⟨some 6, none, .mv false (.t 0 [])⟩,
     ⟨some 7, none, .len (.t 6 [])⟩,
     ⟨some 8, none, .mv false (.t 1 [])⟩,
     ⟨some 9, none, .len (.t 8 [])⟩,
     ⟨some 10, none, .bin .neq (.t 7 []) (.t 9 [])⟩] [6, 7, 8, 9])
   (.cond (.t 10 [])
    (.pre [.kill [0, 1, 10]] (.seq (.region [⟨some 4, none, .take false (.c (.bool false))⟩] [])
    .ret))
    (.pre [.kill [10]] .skip)))
  (.seq (.seq (.region [⟨some 5, none, .take false (.c (I 0))⟩] [])
   (.block 0 (.pre [.kill [4, 11, 12, 13, 14, 15, 16, 17, 18, 19, 20, 21, 22, 23, 24, 25, 26]] (.loop (.seq (.seq (.region [⟨some 11, none, .mv false (.t 5 [])⟩,
        ⟨some 12, none, .mv false (.t 0 [])⟩,
        ⟨some 13, none, .len (.t 12 [])⟩,
        ⟨some 14, none, .bin .lss (.t 11 []) (.t 13 [])⟩] [11, 12, 13])
      (.cond (.t 14 [])
       (.pre [.kill [14]] .skip)
       (.pre [.kill [0, 1, 5, 14]] (.exit 0))))
     (.seq (.block 1 (.seq (.region [⟨some 17, none, .mv false (.t 0 [])⟩,
         ⟨some 18, none, .mv false (.t 5 [])⟩,
         ⟨some 19, none, .iaddr 3 (.t 17 []) (.t 18 [])⟩,
         ⟨some 20, none, .load (some 3) (.t 19 [])⟩,
         ⟨some 21, none, .mv false (.t 1 [])⟩,
         ⟨some 22, none, .mv false (.t 5 [])⟩,
         ⟨some 23, none, .iaddr 3 (.t 21 []) (.t 22 [])⟩,
         ⟨some 24, none, .load (some 3) (.t 23 [])⟩,
         ⟨some 25, none, .call 161 [(.t 20 []), (.t 24 [])]⟩,
         ⟨some 26, none, .un .not (.t 25 [])⟩] [17, 18, 19, 20, 21, 22, 23, 24, 25])
       (.cond (.t 26 [])
        (.pre [.kill [0, 1, 5, 26]] (.seq (.region [⟨some 4, none, .take false (.c (.bool false))⟩] [])
        .ret))
        (.pre [.kill [26]] .skip))))
     (.region [⟨some 15, none, .mv false (.t 5 [])⟩,
      ⟨some 16, none, .bin .add (.t 15 []) (.c (I 1))⟩,
      ⟨some 5, none, .take false (.t 16 [])⟩] [15, 16])))))))
  (.seq (.region [⟨some 4, none, .take false (.c (.bool true))⟩] [])
  .ret))))),
  [(4, none)], [(false, .deep)]⟩

def a_laws_eqValue : AFunc := ⟨[true, true], 32,
  (.pre [.kill [2, 3, 4, 5, 6, 7, 8, 9, 10, 11, 12, 13, 14, 15, 16, 17, 18, 19, 20, 21, 22, 23, 24, 25, 26, 27, 28, 29, 30, 31]] (.seq (.region [⟨some 2, none, .box false (.t 0 [])⟩,
    ⟨some 3, none, .box false (.t 1 [])⟩,
    ⟨some 4, none, .take false (.c (.bool false))⟩] [0, 1, 4])
  (.seq (.seq (.region [⟨some 5, none, .faddr 0 (.t 2 [])⟩,
     ⟨some 6, none, .load none (.t 5 [2])⟩,
     ⟨some 7, none, .faddr 0 (.t 3 [])⟩,
     ⟨some 8, none, .load none (.t 7 [3])⟩,
     ⟨some 9, none, .bin .neq (.t 6 []) (.t 8 [])⟩] [5, 6, 7, 8])
   (.cond (.t 9 [])
    (.pre [.kill [2, 3, 9]] (.seq (.region [⟨some 4, none, .take false (.c (.bool false))⟩] [])
    .ret))
    (.pre [.kill [9]] .skip)))
  (.seq (.seq (.region [⟨some 10, none, .faddr 1 (.t 2 [])⟩,
     ⟨some 11, none, .load none (.t 10 [2])⟩,
     ⟨some 12, none, .faddr 1 (.t 3 [])⟩,
     ⟨some 13, none, .load none (.t 12 [3])⟩,
     ⟨some 14, none, .bin .neq (.t 11 []) (.t 13 [])⟩] [10, 11, 12, 13])
   (.cond (.t 14 [])
    (.pre [.kill [2, 3, 14]] (.seq (.region [⟨some 4, none, .take false (.c (.bool false))⟩] [])
    .ret))
    (.pre [.kill [14]] .skip)))
  (.seq (.seq (.region [⟨some 15, none, .faddr 2 (.t 2 [])⟩,
     ⟨some 16, none, .load none (.t 15 [2])⟩,
     ⟨some 17, none, .faddr 2 (.t 3 [])⟩,
     ⟨some 18, none, .load none (.t 17 [3])⟩,
     ⟨some 19, none, .bin .neq (.t 16 []) (.t 18 [])⟩] [15, 16, 17, 18])
   (.cond (.t 19 [])
    (.pre [.kill [2, 3, 19]] (.seq (.region [⟨some 4, none, .take false (.c (.bool false))⟩] [])
    .ret))
    (.pre [.kill [19]] .skip)))
  (.seq (.seq (.region [⟨some 20, none, .faddr 3 (.t 2 [])⟩,
     ⟨some 21, none, .load none (.t 20 [2])⟩,
     ⟨some 22, none, .faddr 3 (.t 3 [])⟩,
     ⟨some 23, none, .load none (.t 22 [3])⟩,
     ⟨some 24, none, .call 103 [(.t 21 []), (.t 23 [])]⟩,
     ⟨some 25, none, .un .not (.t 24 [])⟩] [20, 21, 22, 23, 24])
   (.cond (.t 25 [])
    (.pre [.kill [2, 3, 25]] (.seq (.region [⟨some 4, none, .take false (.c (.bool false))⟩] [])
    .ret))
    (.pre [.kill [25]] .skip)))
  (.seq (.seq (.region [⟨some 26, none, .faddr 4 (.t 2 [])⟩,
     ⟨some 27, none, .load none (.t 26 [2])⟩,
     ⟨some 28, none, .faddr 4 (.t 3 [])⟩,
     ⟨some 29, none, .load none (.t 28 [3])⟩,
     ⟨some 30, none, .call 104 [(.t 27 []), (.t 29 [])]⟩,
     ⟨some 31, none, .un .not (.t 30 [])⟩] [2, 3, 27, 29, 30])
   (.cond (.t 31 [])
    (.pre [.kill [31]] (.seq (.region [⟨some 4, none, .take false (.c (.bool false))⟩] [])
    .ret))
    (.pre [.kill [31]] .skip)))
  (.seq (.region [⟨some 4, none, .take false (.c (.bool true))⟩] [])
  .ret)))))))),
  [(4, none)], [(false, .deep)]⟩

def a_laws_szValueS : AFunc := ⟨[false, false], 27,
  (.pre [.kill [2, 3, 4, 5, 6, 7, 8, 9, 10, 11, 12, 13, 14, 15, 16, 17, 18, 19, 20, 21, 22, 23, 24, 25, 26]] (.seq (.region [⟨some 4, none, .take false (.c (I 0))⟩] [4])
  (.seq (.region [⟨some 6, none, .mv false (.t 1 [])⟩,
    ⟨some 7, none, .mv false (.t 0 [])⟩,
    ⟨some 8, none, .len (.t 7 [])⟩,
    ⟨some 9, none, .bin .sub (.t 6 []) (.t 8 [])⟩,
    ⟨some 1, none, .take false (.t 9 [])⟩] [6, 7, 8, 9])
  (.seq (.seq (.region [⟨some 10, none, .mv false (.t 1 [])⟩,
     ⟨some 11, none, .bin .lss (.t 10 []) (.c (I 0))⟩] [10])
   (.cond (.t 11 [])
    (.pre [.kill [0, 1, 11]] (.seq (.region [⟨some 4, none, .take false (.c (I (-1)))⟩] [])
    .ret))
    (.pre [.kill [11]] .skip)))
  (.seq (.seq (.region [⟨some 5, none, .take false (.c (I 0))⟩] [])
   (.block 0 (.pre [.kill [4, 12, 13, 14, 15, 16, 17, 18, 19, 20, 21, 22, 23, 24, 25]] (.loop (.seq (.seq (.region [⟨some 12, none, .mv false (.t 5 [])⟩,
        ⟨some 13, none, .mv false (.t 0 [])⟩,
        ⟨some 14, none, .len (.t 13 [])⟩,
        ⟨some 15, none, .bin .lss (.t 12 []) (.t 14 [])⟩] [12, 13, 14])
      (.cond (.t 15 [])
       (.pre [.kill [15]] .skip)
       (.pre [.kill [0, 5, 15]] (.exit 0))))
     (.seq (.block 1 (.seq (.region [⟨some 18, none, .mv false (.t 0 [])⟩,
         ⟨some 19, none, .mv false (.t 5 [])⟩,
         ⟨some 20, none, .iaddr 5 (.t 18 []) (.t 19 [])⟩,
         ⟨some 21, none, .load (some 5) (.t 20 [])⟩,
         ⟨some 22, none, .mv false (.t 1 [])⟩,
         ⟨some 23, none, .call 76 [(.t 21 []), (.t 22 [])]⟩,
         ⟨some 1, none, .take false (.t 23 [])⟩] [18, 19, 20, 21, 22, 23])
       (.seq (.region [⟨some 24, none, .mv false (.t 1 [])⟩,
         ⟨some 25, none, .bin .lss (.t 24 []) (.c (I 0))⟩] [24])
       (.cond (.t 25 [])
        (.pre [.kill [0, 1, 5, 25]] (.seq (.region [⟨some 4, none, .take false (.c (I (-1)))⟩] [])
        .ret))
        (.pre [.kill [25]] .skip)))))
     (.region [⟨some 16, none, .mv false (.t 5 [])⟩,
      ⟨some 17, none, .bin .add (.t 16 []) (.c (I 1))⟩,
      ⟨some 5, none, .take false (.t 17 [])⟩] [16, 17])))))))
  (.seq (.region [⟨some 26, none, .mv false (.t 1 [])⟩,
    ⟨some 4, none, .take false (.t 26 [])⟩] [1, 26])
  .ret)))))),
  [(4, none)], [(false, .deep)]⟩

def a_laws_toValueS : AFunc := ⟨[false], 23,
  (.pre [.kill [1, 2, 3, 4, 5, 6, 7, 8, 9, 10, 11, 12, 13, 14, 15, 16, 17, 18, 19, 20, 21, 22]] (.seq (.region [⟨some 2, none, .take false (.c (Z 5))⟩] [2])
  (.seq (.region [⟨some 5, none, .mv false (.t 0 [])⟩,
    ⟨some 6, none, .len (.t 5 [])⟩,
    ⟨some 7, none, .make .deep 5 [I0, I0, S0, (Z 1), (Z 5)] (.t 6 [])⟩,
    ⟨some 3, none, .take false (.t 7 [])⟩] [5, 6, 7])
  (.seq (.seq (.region [⟨some 4, none, .take false (.c (I 0))⟩] [])
   (.block 0 (.pre [.kill [8, 9, 10, 11, 12, 13, 14, 15, 16, 17, 18, 19, 20, 21]] (.loop (.seq (.seq (.region [⟨some 8, none, .mv false (.t 4 [])⟩,
        ⟨some 9, none, .mv false (.t 0 [])⟩,
        ⟨some 10, none, .len (.t 9 [])⟩,
        ⟨some 11, none, .bin .lss (.t 8 []) (.t 10 [])⟩] [8, 9, 10])
      (.cond (.t 11 [])
       (.pre [.kill [11]] .skip)
       (.pre [.kill [0, 4, 11]] (.exit 0))))
     (.seq (.block 1 (.region [⟨some 14, none, .mv false (.t 3 [])⟩,
        ⟨some 15, none, .mv false (.t 4 [])⟩,
        ⟨some 16, none, .mv false (.t 0 [])⟩,
        ⟨some 17, none, .mv false (.t 4 [])⟩,
        ⟨some 18, none, .iaddr 5 (.t 16 []) (.t 17 [])⟩,
        ⟨some 19, none, .load (some 5) (.t 18 [])⟩,
        ⟨some 20, none, .call 78 [(.t 19 [])]⟩,
        ⟨some 21, none, .iaddr 5 (.t 14 [3]) (.t 15 [])⟩,
        ⟨none, none, .store 5 (.t 21 [3]) (.t 20 [])⟩] [14, 15, 16, 17, 18, 19, 20]))
     (.region [⟨some 12, none, .mv false (.t 4 [])⟩,
      ⟨some 13, none, .bin .add (.t 12 []) (.c (I 1))⟩,
      ⟨some 4, none, .take false (.t 13 [])⟩] [12, 13])))))))
  (.seq (.region [⟨some 22, none, .mv false (.t 3 [])⟩,
    ⟨some 2, none, .take false (.t 22 [3])⟩] [3, 22])
  .ret))))),
  [(2, none)], [(false, .deep)]⟩

def a_spec_l3Left : AFunc := ⟨[true, false], 27,
  (.pre [.kill [2, 3, 4, 5, 6, 7, 8, 9, 10, 11, 12, 13, 14, 15, 16, 17, 18, 19, 20, 21, 22, 23, 24, 25, 26]] (.seq (.region [⟨some 2, none, .box false (.t 0 [])⟩,
    ⟨some 4, none, .take false (.c (I 0))⟩] [0, 4])
  (.seq (.region [⟨some 6, none, .mv false (.t 1 [])⟩,
    ⟨some 7, none, .bin .sub (.t 6 []) (.c (I 1))⟩,
    ⟨some 1, none, .take false (.t 7 [])⟩] [6, 7])
  (.seq (.seq (.region [⟨some 5, none, .take false (.c (I 0))⟩] [])
   (.block 0 (.pre [.kill [8, 9, 10, 11, 12, 13, 14, 15, 16, 17, 18, 19, 20, 21, 22, 23, 24, 25]] (.loop (.seq (.seq (.region [⟨some 8, none, .mv false (.t 5 [])⟩,
        ⟨some 9, none, .faddr 2 (.t 2 [])⟩,
        ⟨some 10, none, .load none (.t 9 [2])⟩,
        ⟨some 11, none, .len (.t 10 [])⟩,
        ⟨some 12, none, .bin .lss (.t 8 []) (.t 11 [])⟩,
        ⟨some 13, none, .mv false (.t 12 [])⟩,
        ⟨some 14, some (13, true), .mv false (.t 1 [])⟩,
        ⟨some 15, some (13, true), .bin .geq (.t 14 []) (.c (I 0))⟩,
        ⟨some 16, none, .pick (.t 13 []) (.t 15 []) (.c (.bool false))⟩] [8, 9, 10, 11, 12, 13, 14, 15])
      (.cond (.t 16 [])
       (.pre [.kill [16]] .skip)
       (.pre [.kill [2, 5, 16]] (.exit 0))))
     (.seq (.block 1 (.region [⟨some 19, none, .faddr 2 (.t 2 [])⟩,
        ⟨some 20, none, .load none (.t 19 [2])⟩,
        ⟨some 21, none, .mv false (.t 5 [])⟩,
        ⟨some 22, none, .iaddr 3 (.t 20 []) (.t 21 [])⟩,
        ⟨some 23, none, .load (some 3) (.t 22 [])⟩,
        ⟨some 24, none, .mv false (.t 1 [])⟩,
        ⟨some 25, none, .call 219 [(.t 23 []), (.t 24 [])]⟩,
        ⟨some 1, none, .take false (.t 25 [])⟩] [19, 20, 21, 22, 23, 24, 25]))
     (.region [⟨some 17, none, .mv false (.t 5 [])⟩,
      ⟨some 18, none, .bin .add (.t 17 []) (.c (I 1))⟩,
      ⟨some 5, none, .take false (.t 18 [])⟩] [17, 18])))))))
  (.seq (.region [⟨some 26, none, .mv false (.t 1 [])⟩,
    ⟨some 4, none, .take false (.t 26 [])⟩] [1, 26])
  .ret))))),
  [(4, none)], [(false, .deep)]⟩

def a_spec_DepthOfType : AFunc := ⟨[true], 22,
  (.pre [.kill [1, 2, 3, 4, 5, 6, 7, 8, 9, 10, 11, 12, 13, 14, 15, 16, 17, 18, 19, 20, 21]] (.seq (.region [⟨some 1, none, .box false (.t 0 [])⟩,
    ⟨some 2, none, .take false (.c (I 0))⟩] [0, 2])
  (.seq (.region [⟨some 3, none, .take false (.c (I 0))⟩] [])
  (.seq (.seq (.region [⟨some 4, none, .take false (.c (I 0))⟩] [])
   (.block 0 (.pre [.kill [5, 6, 7, 8, 9, 10, 11, 12, 13, 14, 15, 16, 17, 18, 19]] (.loop (.seq (.seq (.region [⟨some 5, none, .mv false (.t 4 [])⟩,
        ⟨some 6, none, .faddr 2 (.t 1 [])⟩,
        ⟨some 7, none, .load none (.t 6 [1])⟩,
        ⟨some 8, none, .len (.t 7 [])⟩,
        ⟨some 9, none, .bin .lss (.t 5 []) (.t 8 [])⟩] [5, 6, 7, 8])
      (.cond (.t 9 [])
       (.pre [.kill [9]] .skip)
       (.pre [.kill [1, 4, 9]] (.exit 0))))
     (.seq (.block 1 (.region [⟨some 12, none, .mv false (.t 3 [])⟩,
        ⟨some 13, none, .faddr 2 (.t 1 [])⟩,
        ⟨some 14, none, .load none (.t 13 [1])⟩,
        ⟨some 15, none, .mv false (.t 4 [])⟩,
        ⟨some 16, none, .iaddr 3 (.t 14 []) (.t 15 [])⟩,
        ⟨some 17, none, .load (some 3) (.t 16 [])⟩,
        ⟨some 18, none, .call 220 [(.t 17 [])]⟩,
        ⟨some 19, none, .call 129 [(.t 12 []), (.t 18 [])]⟩,
        ⟨some 3, none, .take false (.t 19 [])⟩] [12, 13, 14, 15, 16, 17, 18, 19]))
     (.region [⟨some 10, none, .mv false (.t 4 [])⟩,
      ⟨some 11, none, .bin .add (.t 10 []) (.c (I 1))⟩,
      ⟨some 4, none, .take false (.t 11 [])⟩] [10, 11])))))))
  (.seq (.region [⟨some 20, none, .mv false (.t 3 [])⟩,
    ⟨some 21, none, .bin .add (.t 20 []) (.c (I 1))⟩,
    ⟨some 2, none, .take false (.t 21 [])⟩] [3, 20, 21])
  .ret))))),
  [(2, none)], [(false, .deep)]⟩

def a_spec_l3Form : AFunc := ⟨[true], 60,
  (.pre [.kill [1, 2, 3, 4, 5, 6, 7, 8, 9, 10, 11, 12, 13, 14, 15, 16, 17, 18, 19, 20, 21, 22, 23, 24, 25, 26, 27, 28, 29, 30, 31, 32, 33, 34, 35, 36, 37, 38, 39, 40, 41, 42, 43, 44, 45, 46, 47, 48, 49, 50, 51, 52, 53, 54, 55, 56, 57, 58, 59]] (.seq (.region [⟨some 1, none, .box false (.t 0 [])⟩,
    ⟨some 2, none, .take false (.c (.bool false))⟩] [0, 2])
  (.seq (.seq (.region [⟨some 3, none, .take false (.c (I 0))⟩] [])
   (.block 0 (.pre [.kill [2, 4, 5, 6, 7, 8, 9, 10, 11, 12, 13, 14, 15, 16, 17]] (.loop (.seq (.seq (.region [⟨some 4, none, .mv false (.t 3 [])⟩,
        ⟨some 5, none, .faddr 2 (.t 1 [])⟩,
        ⟨some 6, none, .load none (.t 5 [1])⟩,
        ⟨some 7, none, .len (.t 6 [])⟩,
        ⟨some 8, none, .bin .lss (.t 4 []) (.t 7 [])⟩] [4, 5, 6, 7])
      (.cond (.t 8 [])
       (.pre [.kill [8]] .skip)
       (.pre [.kill [3, 8]] (.exit 0))))
     (.seq (.block 1 (.seq (.region [⟨some 11, none, .faddr 2 (.t 1 [])⟩,
         ⟨some 12, none, .load none (.t 11 [1])⟩,
         ⟨some 13, none, .mv false (.t 3 [])⟩,
         ⟨some 14, none, .iaddr 3 (.t 12 []) (.t 13 [])⟩,
         ⟨some 15, none, .load (some 3) (.t 14 [])⟩,
         ⟨some 16, none, .call 221 [(.t 15 [])]⟩,
         ⟨some 17, none, .un .not (.t 16 [])⟩] [11, 12, 13, 14, 15, 16])
       (.cond (.t 17 [])
        (.pre [.kill [1, 3, 17]] (.seq (.region [⟨some 2, none, .take false (.c (.bool false))⟩] [])
        .ret))
        (.pre [.kill [17]] .skip))))
     (.region [⟨some 9, none, .mv false (.t 3 [])⟩,
      ⟨some 10, none, .bin .add (.t 9 []) (.c (I 1))⟩,
      ⟨some 3, none, .take false (.t 10 [])⟩] [9, 10])))))))
  (.seq (.seq (.region [⟨some 18, none, .faddr 0 (.t 1 [])⟩,
     ⟨some 19, none, .load none (.t 18 [1])⟩] [18])
   (.block 2 (.seq (.seq (.region [⟨some 21, none, .bin .eql (.t 19 []) (.c (I 1))⟩,
       ⟨some 20, none, .take false (.t 21 [])⟩] [21])
     (.cond (.t 20 [])
      .skip
      (.pre [.kill [20]] (.region [⟨some 22, none, .bin .eql (.t 19 []) (.c (I 2))⟩,
       ⟨some 20, none, .take false (.t 22 [])⟩] [22]))))
    (.cond (.t 20 [])
     (.pre [.kill [19, 20]] (.seq (.region [⟨some 23, none, .faddr 1 (.t 1 [])⟩,
       ⟨some 24, none, .load none (.t 23 [1])⟩,
       ⟨some 25, none, .len (.t 24 [])⟩,
       ⟨some 26, none, .bin .eql (.t 25 []) (.c (I 0))⟩,
       ⟨some 27, none, .mv false (.t 26 [])⟩,
       ⟨some 28, some (27, true), .faddr 2 (.t 1 [])⟩,
       ⟨some 29, some (27, true), .load none (.t 28 [1])⟩,
       ⟨some 30, some (27, true), .len (.t 29 [])⟩,
       ⟨some 31, some (27, true), .bin .eql (.t 30 []) (.c (I 0))⟩,
       ⟨some 32, none, .pick (.t 27 []) (.t 31 []) (.c (.bool false))⟩,
       ⟨some 2, none, .take false (.t 32 [])⟩] [1, 24, 25, 26, 27, 28, 29, 30, 31, 32])
     .ret))
     (.pre [.kill [20]] (.seq (.seq (.region [⟨some 34, none, .bin .eql (.t 19 []) (.c (I 3))⟩,
        ⟨some 33, none, .take false (.t 34 [])⟩] [34])
      (.cond (.t 33 [])
       .skip
       (.pre [.kill [33]] (.region [⟨some 35, none, .bin .eql (.t 19 []) (.c (I 4))⟩,
        ⟨some 33, none, .take false (.t 35 [])⟩] [35]))))
     (.cond (.t 33 [])
      (.pre [.kill [19, 33]] (.seq (.region [⟨some 36, none, .faddr 2 (.t 1 [])⟩,
        ⟨some 37, none, .load none (.t 36 [1])⟩,
        ⟨some 38, none, .len (.t 37 [])⟩,
        ⟨some 39, none, .faddr 1 (.t 1 [])⟩,
        ⟨some 40, none, .load none (.t 39 [1])⟩,
        ⟨some 41, none, .len (.t 40 [])⟩,
        ⟨some 42, none, .bin .eql (.t 38 []) (.t 41 [])⟩,
        ⟨some 43, none, .mv false (.t 42 [])⟩,
        ⟨some 44, some (43, true), .faddr 1 (.t 1 [])⟩,
        ⟨some 45, some (43, true), .load none (.t 44 [1])⟩,
        ⟨some 46, some (43, true), .call 240 [(.t 45 [])]⟩,
        ⟨some 47, none, .pick (.t 43 []) (.t 46 []) (.c (.bool false))⟩,
        ⟨some 2, none, .take false (.t 47 [])⟩] [1, 37, 38, 40, 41, 42, 43, 44, 45, 46, 47])
      .ret))
      (.pre [.kill [33]] (.seq (.region [⟨some 49, none, .bin .eql (.t 19 []) (.c (I 5))⟩,
        ⟨some 48, none, .take false (.t 49 [])⟩] [19, 49])
      (.cond (.t 48 [])
       (.pre [.kill [48]] (.seq (.region [⟨some 50, none, .faddr 1 (.t 1 [])⟩,
         ⟨some 51, none, .load none (.t 50 [1])⟩,
         ⟨some 52, none, .len (.t 51 [])⟩,
         ⟨some 53, none, .bin .eql (.t 52 []) (.c (I 0))⟩,
         ⟨some 54, none, .mv false (.t 53 [])⟩,
         ⟨some 55, some (54, true), .faddr 2 (.t 1 [])⟩,
         ⟨some 56, some (54, true), .load none (.t 55 [1])⟩,
         ⟨some 57, some (54, true), .len (.t 56 [])⟩,
         ⟨some 58, some (54, true), .bin .eql (.t 57 []) (.c (I 1))⟩,
         ⟨some 59, none, .pick (.t 54 []) (.t 58 []) (.c (.bool false))⟩,
         ⟨some 2, none, .take false (.t 59 [])⟩] [1, 51, 52, 53, 54, 55, 56, 57, 58, 59])
       .ret))
       (.pre [.kill [1, 48]] .skip)))))))))))
  (.seq (.region [⟨some 2, none, .take false (.c (.bool false))⟩] [])
  .ret))))),
  [(2, none)], [(false, .deep)]⟩

def a_spec_IsValue : AFunc := ⟨[true], 10,
  (.pre [.kill [1, 2, 3, 4, 5, 6, 7, 8, 9]] (.seq (.region [⟨some 1, none, .box false (.t 0 [])⟩,
    ⟨some 2, none, .take false (.c (.bool false))⟩] [0, 2])
  (.seq (.region [⟨some 3, none, .load (some 5) (.t 1 [1])⟩,
    ⟨some 4, none, .call 212 [(.t 3 []), (.c (I 300))]⟩,
    ⟨some 5, none, .bin .geq (.t 4 []) (.c (I 0))⟩,
    ⟨some 6, none, .mv false (.t 5 [])⟩,
    ⟨some 7, some (6, true), .load (some 5) (.t 1 [1])⟩,
    ⟨some 8, some (6, true), .call 213 [(.t 7 [])]⟩,
    ⟨some 9, none, .pick (.t 6 []) (.t 8 []) (.c (.bool false))⟩,
    ⟨some 2, none, .take false (.t 9 [])⟩] [1, 3, 4, 5, 6, 7, 8, 9])
  .ret))),
  [(2, none)], [(false, .deep)]⟩

def a_spec_l5Has : AFunc := ⟨[true, true], 104,
  (.pre [.kill [2, 3, 4, 5, 6, 7, 8, 9, 10, 11, 12, 13, 14, 15, 16, 17, 18, 19, 20, 21, 22, 23, 24, 25, 26, 27, 28, 29, 30, 31, 32, 33, 34, 35, 36, 37, 38, 39, 40, 41, 42, 43, 44, 45, 46, 47, 48, 49, 50, 51, 52, 53, 54, 55, 56, 57, 58, 59, 60, 61, 62, 63, 64, 65, 66, 67, 68, 69, 70, 71, 72, 73, 74, 75, 76, 77, 78, 79, 80, 81, 82, 83, 84, 85, 86, 87, 88, 89, 90, 91, 92, 93, 94, 95, 96, 97, 98, 99, 100, 101, 102, 103]] (.seq (.region [⟨some 2, none, .box false (.t 0 [])⟩,
    ⟨some 3, none, .box false (.t 1 [])⟩,
    ⟨some 4, none, .take false (.c (.bool false))⟩] [0, 1, 4])
  (.seq (.seq (.region [⟨some 8, none, .faddr 0 (.t 3 [])⟩,
     ⟨some 9, none, .load none (.t 8 [3])⟩] [8])
   (.block 0 (.seq (.region [⟨some 11, none, .bin .eql (.t 9 []) (.c (I 1))⟩,
      ⟨some 10, none, .take false (.t 11 [])⟩] [11])
    (.cond (.t 10 [])
     (.pre [.kill [3, 9, 10]] (.seq (.region [⟨some 12, none, .faddr 0 (.t 2 [])⟩,
       ⟨some 13, none, .load none (.t 12 [2])⟩,
       ⟨some 14, none, .bin .eql (.t 13 []) (.c (I 1))⟩,
       ⟨some 4, none, .take false (.t 14 [])⟩] [2, 13, 14])
     .ret))
     (.pre [.kill [10]] (.seq (.region [⟨some 16, none, .bin .eql (.t 9 []) (.c (I 2))⟩,
       ⟨some 15, none, .take false (.t 16 [])⟩] [16])
     (.cond (.t 15 [])
      (.pre [.kill [3, 9, 15]] (.seq (.region [⟨some 17, none, .faddr 0 (.t 2 [])⟩,
        ⟨some 18, none, .load none (.t 17 [2])⟩,
        ⟨some 19, none, .bin .eql (.t 18 []) (.c (I 2))⟩,
        ⟨some 4, none, .take false (.t 19 [])⟩] [2, 18, 19])
      .ret))
      (.pre [.kill [15]] (.seq (.region [⟨some 21, none, .bin .eql (.t 9 []) (.c (I 3))⟩,
        ⟨some 20, none, .take false (.t 21 [])⟩] [21])
      (.cond (.t 20 [])
       (.pre [.kill [9, 20]] (.seq (.seq (.region [⟨some 22, none, .faddr 0 (.t 2 [])⟩,
          ⟨some 23, none, .load none (.t 22 [2])⟩,
          ⟨some 24, none, .bin .neq (.t 23 []) (.c (I 3))⟩,
          ⟨some 25, none, .mv false (.t 24 [])⟩,
          ⟨some 26, some (25, false), .faddr 3 (.t 2 [])⟩,
          ⟨some 27, some (25, false), .load none (.t 26 [2])⟩,
          ⟨some 28, some (25, false), .faddr 1 (.t 3 [])⟩,
          ⟨some 29, some (25, false), .load none (.t 28 [3])⟩,
          ⟨some 30, some (25, false), .call 208 [(.t 27 []), (.t 29 [])]⟩,
          ⟨some 31, some (25, false), .un .not (.t 30 [])⟩,
          ⟨some 32, none, .pick (.t 25 []) (.c (.bool true)) (.t 31 [])⟩] [22, 23, 24, 25, 26, 27, 28, 29, 30, 31])
        (.cond (.t 32 [])
         (.pre [.kill [2, 3, 32]] (.seq (.region [⟨some 4, none, .take false (.c (.bool false))⟩] [])
         .ret))
         (.pre [.kill [32]] .skip)))
       (.seq (.seq (.region [⟨some 5, none, .take false (.c (I 0))⟩] [])
        (.block 1 (.pre [.kill [4, 33, 34, 35, 36, 37, 38, 39, 40, 41, 42, 43, 44, 45, 46, 47, 48, 49, 50, 51]] (.loop (.seq (.seq (.region [⟨some 33, none, .mv false (.t 5 [])⟩,
             ⟨some 34, none, .faddr 4 (.t 2 [])⟩,
             ⟨some 35, none, .load none (.t 34 [2])⟩,
             ⟨some 36, none, .len (.t 35 [])⟩,
             ⟨some 37, none, .bin .lss (.t 33 []) (.t 36 [])⟩] [33, 34, 35, 36])
           (.cond (.t 37 [])
            (.pre [.kill [37]] .skip)
            (.pre [.kill [2, 3, 5, 37]] (.exit 1))))
          (.seq (.block 2 (.seq (.region [⟨some 40, none, .faddr 4 (.t 2 [])⟩,
              ⟨some 41, none, .load none (.t 40 [2])⟩,
              ⟨some 42, none, .mv false (.t 5 [])⟩,
              ⟨some 43, none, .iaddr 5 (.t 41 []) (.t 42 [])⟩,
              ⟨some 44, none, .load (some 5) (.t 43 [])⟩,
              ⟨some 45, none, .faddr 2 (.t 3 [])⟩,
              ⟨some 46, none, .load none (.t 45 [3])⟩,
              ⟨some 47, none, .mv false (.t 5 [])⟩,
              ⟨some 48, none, .iaddr 3 (.t 46 []) (.t 47 [])⟩,
              ⟨some 49, none, .load (some 3) (.t 48 [])⟩,
              ⟨some 50, none, .call 237 [(.t 44 []), (.t 49 [])]⟩,
              ⟨some 51, none, .un .not (.t 50 [])⟩] [40, 41, 42, 43, 44, 45, 46, 47, 48, 49, 50])
            (.cond (.t 51 [])
             (.pre [.kill [2, 3, 5, 51]] (.seq (.region [⟨some 4, none, .take false (.c (.bool false))⟩] [])
             .ret))
             (.pre [.kill [51]] .skip))))
          (.region [⟨some 38, none, .mv false (.t 5 [])⟩,
           ⟨some 39, none, .bin .add (.t 38 []) (.c (I 1))⟩,
           ⟨some 5, none, .take false (.t 39 [])⟩] [38, 39])))))))
       (.seq (.region [⟨some 4, none, .take false (.c (.bool true))⟩] [])
       .ret))))
       (.pre [.kill [20]] (.seq (.region [⟨some 53, none, .bin .eql (.t 9 []) (.c (I 4))⟩,
         ⟨some 52, none, .take false (.t 53 [])⟩] [9, 53])
       (.cond (.t 52 [])
        (.pre [.kill [52]] (.seq (.region [⟨some 54, none, .faddr 1 (.t 3 [])⟩,
          ⟨some 55, none, .load none (.t 54 [3])⟩,
          ⟨some 56, none, .faddr 2 (.t 2 [])⟩,
          ⟨some 57, none, .load none (.t 56 [2])⟩,
          ⟨some 58, none, .call 187 [(.t 55 []), (.t 57 [])]⟩,
          ⟨some 6, none, .take false (.t 58 [])⟩] [54, 55, 56, 57, 58])
        (.seq (.region [⟨some 59, none, .faddr 0 (.t 2 [])⟩,
          ⟨some 60, none, .load none (.t 59 [2])⟩,
          ⟨some 61, none, .bin .eql (.t 60 []) (.c (I 4))⟩,
          ⟨some 62, none, .mv false (.t 61 [])⟩,
          ⟨some 63, some (62, true), .mv false (.t 6 [])⟩,
          ⟨some 64, some (62, true), .bin .geq (.t 63 []) (.c (I 0))⟩,
          ⟨some 65, none, .pick (.t 62 []) (.t 64 []) (.c (.bool false))⟩,
          ⟨some 66, none, .mv false (.t 65 [])⟩,
          ⟨some 67, some (66, true), .faddr 4 (.t 2 [])⟩,
          ⟨some 68, some (66, true), .load none (.t 67 [2])⟩,
          ⟨some 69, some (66, true), .iaddr 5 (.t 68 []) (.c (I 0))⟩,
          ⟨some 70, some (66, true), .load (some 5) (.t 69 [])⟩,
          ⟨some 71, some (66, true), .faddr 2 (.t 3 [])⟩,
          ⟨some 72, some (66, true), .load none (.t 71 [3])⟩,
          ⟨some 73, some (66, true), .mv false (.t 6 [])⟩,
          ⟨some 74, some (66, true), .iaddr 3 (.t 72 []) (.t 73 [])⟩,
          ⟨some 75, some (66, true), .load (some 3) (.t 74 [])⟩,
          ⟨some 76, some (66, true), .call 237 [(.t 70 []), (.t 75 [])]⟩,
          ⟨some 77, none, .pick (.t 66 []) (.t 76 []) (.c (.bool false))⟩,
          ⟨some 4, none, .take false (.t 77 [])⟩] [2, 3, 6, 60, 61, 62, 63, 64, 65, 66, 67, 68, 69, 70, 71, 72, 73, 74, 75, 76, 77])
        .ret)))
        (.pre [.kill [52]] .skip))))))))))))))
  (.seq (.seq (.region [⟨some 7, none, .take false (.c (I 0))⟩] [])
   (.block 3 (.pre [.kill [4, 78, 79, 80, 81, 82, 83, 84, 85, 86, 87, 88, 89, 90, 91, 92, 93, 94, 95, 96, 97, 98, 99, 100]] (.loop (.seq (.seq (.region [⟨some 78, none, .mv false (.t 7 [])⟩,
        ⟨some 79, none, .faddr 4 (.t 2 [])⟩,
        ⟨some 80, none, .load none (.t 79 [2])⟩,
        ⟨some 81, none, .len (.t 80 [])⟩,
        ⟨some 82, none, .bin .lss (.t 78 []) (.t 81 [])⟩,
        ⟨some 83, none, .mv false (.t 82 [])⟩,
        ⟨some 84, some (83, true), .faddr 0 (.t 2 [])⟩,
        ⟨some 85, some (83, true), .load none (.t 84 [2])⟩,
        ⟨some 86, some (83, true), .bin .eql (.t 85 []) (.c (I 5))⟩,
        ⟨some 87, none, .pick (.t 83 []) (.t 86 []) (.c (.bool false))⟩] [78, 79, 80, 81, 82, 83, 84, 85, 86])
      (.cond (.t 87 [])
       (.pre [.kill [87]] .skip)
       (.pre [.kill [3, 7, 87]] (.exit 3))))
     (.seq (.block 4 (.seq (.region [⟨some 90, none, .faddr 4 (.t 2 [])⟩,
         ⟨some 91, none, .load none (.t 90 [2])⟩,
         ⟨some 92, none, .mv false (.t 7 [])⟩,
         ⟨some 93, none, .iaddr 5 (.t 91 []) (.t 92 [])⟩,
         ⟨some 94, none, .load (some 5) (.t 93 [])⟩,
         ⟨some 95, none, .faddr 2 (.t 3 [])⟩,
         ⟨some 96, none, .load none (.t 95 [3])⟩,
         ⟨some 97, none, .iaddr 3 (.t 96 []) (.c (I 0))⟩,
         ⟨some 98, none, .load (some 3) (.t 97 [])⟩,
         ⟨some 99, none, .call 237 [(.t 94 []), (.t 98 [])]⟩,
         ⟨some 100, none, .un .not (.t 99 [])⟩] [90, 91, 92, 93, 94, 95, 96, 97, 98, 99])
       (.cond (.t 100 [])
        (.pre [.kill [2, 3, 7, 100]] (.seq (.region [⟨some 4, none, .take false (.c (.bool false))⟩] [])
        .ret))
        (.pre [.kill [100]] .skip))))
     (.region [⟨some 88, none, .mv false (.t 7 [])⟩,
      ⟨some 89, none, .bin .add (.t 88 []) (.c (I 1))⟩,
      ⟨some 7, none, .take false (.t 89 [])⟩] [88, 89])))))))
  (.seq (.region [⟨some 101, none, .faddr 0 (.t 2 [])⟩,
    ⟨some 102, none, .load none (.t 101 [2])⟩,
    ⟨some 103, none, .bin .eql (.t 102 []) (.c (I 5))⟩,
    ⟨some 4, none, .take false (.t 103 [])⟩] [2, 102, 103])
  .ret))))),
  [(4, none)], [(false, .deep)]⟩

def a_impl_SizeOfType : AFunc := ⟨[true], 19,
  (.pre [.kill [1, 2, 3, 4, 5, 6, 7, 8, 9, 10, 11, 12, 13, 14, 15, 16, 17, 18]] (.seq (.region [⟨some 1, none, .box false (.t 0 [])⟩,
    ⟨some 2, none, .take false (.c (I 0))⟩] [0, 2])
  (.seq (.region [⟨some 3, none, .take false (.c (I 1))⟩] [])
  (.seq (.seq (.region [⟨some 6, none, .faddr 2 (.t 1 [])⟩,
     ⟨some 7, none, .load none (.t 6 [1])⟩,
     ⟨some 8, none, .len (.t 7 [])⟩,
     ⟨some 9, none, .take false (.c (I 0))⟩] [1])
   (.block 0 (.pre [.kill [5, 10, 11, 12, 13, 14, 15, 16, 17]] (.loop (.seq (.region [⟨some 10, none, .bin .lss (.t 9 []) (.t 8 [])⟩] [])
     (.seq (.cond (.t 10 [])
       (.pre [.kill [10]] .skip)
       (.pre [.kill [7, 8, 9, 10]] (.exit 0)))
     (.seq (.block 1 (.seq (.region [⟨some 11, none, .iaddr 3 (.t 7 []) (.t 9 [])⟩,
         ⟨some 12, none, .load (some 3) (.t 11 [])⟩,
         ⟨some 5, none, .alloc false [I0, (Z 1), (Z 3)] [.deep, .deep, .deep]⟩,
         ⟨none, none, .store 3 (.t 5 [5]) (.t 12 [])⟩] [11, 12])
       (.region [⟨some 13, none, .mv false (.t 3 [])⟩,
        ⟨some 14, none, .load (some 3) (.t 5 [5])⟩,
        ⟨some 15, none, .call 222 [(.t 14 [])]⟩,
        ⟨some 16, none, .bin .add (.t 13 []) (.t 15 [])⟩,
        ⟨some 3, none, .take false (.t 16 [])⟩] [5, 13, 14, 15, 16])))
     (.region [⟨some 17, none, .bin .add (.t 9 []) (.c (I 1))⟩,
      ⟨some 9, none, .mv false (.t 17 [])⟩] [17]))))))))
  (.seq (.region [⟨some 18, none, .mv false (.t 3 [])⟩,
    ⟨some 2, none, .take false (.t 18 [])⟩] [3, 18])
  .ret))))),
  [(2, none)], [(false, .deep)]⟩

def a_impl_DepthOfType : AFunc := ⟨[true], 20,
  (.pre [.kill [1, 2, 3, 4, 5, 6, 7, 8, 9, 10, 11, 12, 13, 14, 15, 16, 17, 18, 19]] (.seq (.region [⟨some 1, none, .box false (.t 0 [])⟩,
    ⟨some 2, none, .take false (.c (I 0))⟩] [0, 2])
  (.seq (.region [⟨some 3, none, .take false (.c (I 0))⟩] [])
  (.seq (.seq (.region [⟨some 6, none, .faddr 2 (.t 1 [])⟩,
     ⟨some 7, none, .load none (.t 6 [1])⟩,
     ⟨some 8, none, .len (.t 7 [])⟩,
     ⟨some 9, none, .take false (.c (I 0))⟩] [1])
   (.block 0 (.pre [.kill [5, 10, 11, 12, 13, 14, 15, 16, 17]] (.loop (.seq (.region [⟨some 10, none, .bin .lss (.t 9 []) (.t 8 [])⟩] [])
     (.seq (.cond (.t 10 [])
       (.pre [.kill [10]] .skip)
       (.pre [.kill [7, 8, 9, 10]] (.exit 0)))
     (.seq (.block 1 (.seq (.region [⟨some 11, none, .iaddr 3 (.t 7 []) (.t 9 [])⟩,
         ⟨some 12, none, .load (some 3) (.t 11 [])⟩,
         ⟨some 5, none, .alloc false [I0, (Z 1), (Z 3)] [.deep, .deep, .deep]⟩,
         ⟨none, none, .store 3 (.t 5 [5]) (.t 12 [])⟩] [11, 12])
       (.region [⟨some 13, none, .mv false (.t 3 [])⟩,
        ⟨some 14, none, .load (some 3) (.t 5 [5])⟩,
        ⟨some 15, none, .call 223 [(.t 14 [])]⟩,
        ⟨some 16, none, .max (.t 13 []) (.t 15 [])⟩,
        ⟨some 3, none, .take false (.t 16 [])⟩] [5, 13, 14, 15, 16])))
     (.region [⟨some 17, none, .bin .add (.t 9 []) (.c (I 1))⟩,
      ⟨some 9, none, .mv false (.t 17 [])⟩] [17]))))))))
  (.seq (.region [⟨some 18, none, .mv false (.t 3 [])⟩,
    ⟨some 19, none, .bin .add (.t 18 []) (.c (I 1))⟩,
    ⟨some 2, none, .take false (.t 19 [])⟩] [3, 18, 19])
  .ret))))),
  [(2, none)], [(false, .deep)]⟩

def a_impl_typeFormed : AFunc := ⟨[true], 62,
  (.pre [.kill [1, 2, 3, 4, 5, 6, 7, 8, 9, 10, 11, 12, 13, 14, 15, 16, 17, 18, 19, 20, 21, 22, 23, 24, 25, 26, 27, 28, 29, 30, 31, 32, 33, 34, 35, 36, 37, 38, 39, 40, 41, 42, 43, 44, 45, 46, 47, 48, 49, 50, 51, 52, 53, 54, 55, 56, 57, 58, 59, 60, 61]] (.seq (.region [⟨some 1, none, .box false (.t 0 [])⟩,
    ⟨some 2, none, .take false (.c (.bool false))⟩] [0, 2])
  (.seq (.region [⟨some 3, none, .take false (.c (.bool false))⟩] [])
  (.seq (.seq (.region [⟨some 6, none, .faddr 0 (.t 1 [])⟩,
     ⟨some 7, none, .load none (.t 6 [1])⟩] [6])
   (.block 0 (.seq (.seq (.region [⟨some 9, none, .bin .eql (.t 7 []) (.c (I 1))⟩,
       ⟨some 8, none, .take false (.t 9 [])⟩] [9])
     (.cond (.t 8 [])
      .skip
      (.pre [.kill [8]] (.region [⟨some 10, none, .bin .eql (.t 7 []) (.c (I 2))⟩,
       ⟨some 8, none, .take false (.t 10 [])⟩] [10]))))
    (.cond (.t 8 [])
     (.pre [.kill [3, 7, 8]] (.region [⟨some 11, none, .faddr 1 (.t 1 [])⟩,
      ⟨some 12, none, .load none (.t 11 [1])⟩,
      ⟨some 13, none, .len (.t 12 [])⟩,
      ⟨some 14, none, .bin .eql (.t 13 []) (.c (I 0))⟩,
      ⟨some 15, none, .mv false (.t 14 [])⟩,
      ⟨some 16, some (15, true), .faddr 2 (.t 1 [])⟩,
      ⟨some 17, some (15, true), .load none (.t 16 [1])⟩,
      ⟨some 18, some (15, true), .len (.t 17 [])⟩,
      ⟨some 19, some (15, true), .bin .eql (.t 18 []) (.c (I 0))⟩,
      ⟨some 20, none, .pick (.t 15 []) (.t 19 []) (.c (.bool false))⟩,
      ⟨some 3, none, .take false (.t 20 [])⟩] [11, 12, 13, 14, 15, 16, 17, 18, 19, 20]))
     (.pre [.kill [8]] (.seq (.seq (.region [⟨some 22, none, .bin .eql (.t 7 []) (.c (I 3))⟩,
        ⟨some 21, none, .take false (.t 22 [])⟩] [22])
      (.cond (.t 21 [])
       .skip
       (.pre [.kill [21]] (.region [⟨some 23, none, .bin .eql (.t 7 []) (.c (I 4))⟩,
        ⟨some 21, none, .take false (.t 23 [])⟩] [23]))))
     (.cond (.t 21 [])
      (.pre [.kill [3, 7, 21]] (.region [⟨some 24, none, .faddr 1 (.t 1 [])⟩,
       ⟨some 25, none, .load none (.t 24 [1])⟩,
       ⟨some 26, none, .len (.t 25 [])⟩,
       ⟨some 27, none, .faddr 2 (.t 1 [])⟩,
       ⟨some 28, none, .load none (.t 27 [1])⟩,
       ⟨some 29, none, .len (.t 28 [])⟩,
       ⟨some 30, none, .bin .eql (.t 26 []) (.t 29 [])⟩,
       ⟨some 31, none, .mv false (.t 30 [])⟩,
       ⟨some 32, some (31, true), .faddr 1 (.t 1 [])⟩,
       ⟨some 33, some (31, true), .load none (.t 32 [1])⟩,
       ⟨some 34, some (31, true), .call 241 [(.t 33 [])]⟩,
       ⟨some 35, none, .pick (.t 31 []) (.t 34 []) (.c (.bool false))⟩,
       ⟨some 3, none, .take false (.t 35 [])⟩] [24, 25, 26, 27, 28, 29, 30, 31, 32, 33, 34, 35]))
      (.pre [.kill [21]] (.seq (.region [⟨some 37, none, .bin .eql (.t 7 []) (.c (I 5))⟩,
        ⟨some 36, none, .take false (.t 37 [])⟩] [7, 37])
      (.cond (.t 36 [])
       (.pre [.kill [3, 36]] (.region [⟨some 38, none, .faddr 1 (.t 1 [])⟩,
        ⟨some 39, none, .load none (.t 38 [1])⟩,
        ⟨some 40, none, .len (.t 39 [])⟩,
        ⟨some 41, none, .bin .eql (.t 40 []) (.c (I 0))⟩,
        ⟨some 42, none, .mv false (.t 41 [])⟩,
        ⟨some 43, some (42, true), .faddr 2 (.t 1 [])⟩,
        ⟨some 44, some (42, true), .load none (.t 43 [1])⟩,
        ⟨some 45, some (42, true), .len (.t 44 [])⟩,
        ⟨some 46, some (42, true), .bin .eql (.t 45 []) (.c (I 1))⟩,
        ⟨some 47, none, .pick (.t 42 []) (.t 46 []) (.c (.bool false))⟩,
        ⟨some 3, none, .take false (.t 47 [])⟩] [38, 39, 40, 41, 42, 43, 44, 45, 46, 47]))
       (.pre [.kill [36]] .skip)))))))))))
  (.seq (.seq (.region [⟨some 48, none, .faddr 2 (.t 1 [])⟩,
     ⟨some 49, none, .load none (.t 48 [1])⟩,
     ⟨some 50, none, .len (.t 49 [])⟩,
     ⟨some 51, none, .take false (.c (I 0))⟩] [1])
   (.block 1 (.pre [.kill [5, 52, 53, 54, 55, 56, 57, 58, 59, 60]] (.loop (.seq (.region [⟨some 52, none, .bin .lss (.t 51 []) (.t 50 [])⟩] [])
     (.seq (.cond (.t 52 [])
       (.pre [.kill [52]] .skip)
       (.pre [.kill [49, 50, 51, 52]] (.exit 1)))
     (.seq (.block 2 (.seq (.region [⟨some 53, none, .iaddr 3 (.t 49 []) (.t 51 [])⟩,
         ⟨some 54, none, .load (some 3) (.t 53 [])⟩,
         ⟨some 5, none, .alloc false [I0, (Z 1), (Z 3)] [.deep, .deep, .deep]⟩,
         ⟨none, none, .store 3 (.t 5 [5]) (.t 54 [])⟩] [53, 54])
       (.region [⟨some 55, none, .mv false (.t 3 [])⟩,
        ⟨some 56, none, .mv false (.t 55 [])⟩,
        ⟨some 57, some (56, true), .load (some 3) (.t 5 [5])⟩,
        ⟨some 58, some (56, true), .call 224 [(.t 57 [])]⟩,
        ⟨some 59, none, .pick (.t 56 []) (.t 58 []) (.c (.bool false))⟩,
        ⟨some 3, none, .take false (.t 59 [])⟩] [5, 55, 56, 57, 58, 59])))
     (.region [⟨some 60, none, .bin .add (.t 51 []) (.c (I 1))⟩,
      ⟨some 51, none, .mv false (.t 60 [])⟩] [60]))))))))
  (.seq (.region [⟨some 61, none, .mv false (.t 3 [])⟩,
    ⟨some 2, none, .take false (.t 61 [])⟩] [3, 61])
  .ret)))))),
  [(2, none)], [(false, .deep)]⟩

def a_impl_EqualValue : AFunc := ⟨[true, true], 38,
  (.pre [.kill [2, 3, 4, 5, 6, 7, 8, 9, 10, 11, 12, 13, 14, 15, 16, 17, 18, 19, 20, 21, 22, 23, 24, 25, 26, 27, 28, 29, 30, 31, 32, 33, 34, 35, 36, 37]] (.seq (.region [⟨some 2, none, .box false (.t 0 [])⟩,
    ⟨some 3, none, .box false (.t 1 [])⟩,
    ⟨some 4, none, .take false (.c (.bool false))⟩] [0, 1, 4])
  (.seq (.region [⟨some 5, none, .faddr 0 (.t 2 [])⟩,
    ⟨some 6, none, .load none (.t 5 [2])⟩,
    ⟨some 7, none, .faddr 0 (.t 3 [])⟩,
    ⟨some 8, none, .load none (.t 7 [3])⟩,
    ⟨some 9, none, .bin .eql (.t 6 []) (.t 8 [])⟩,
    ⟨some 10, none, .mv false (.t 9 [])⟩,
    ⟨some 11, some (10, true), .faddr 1 (.t 2 [])⟩,
    ⟨some 12, some (10, true), .load none (.t 11 [2])⟩,
    ⟨some 13, some (10, true), .faddr 1 (.t 3 [])⟩,
    ⟨some 14, some (10, true), .load none (.t 13 [3])⟩,
    ⟨some 15, some (10, true), .bin .eql (.t 12 []) (.t 14 [])⟩,
    ⟨some 16, none, .pick (.t 10 []) (.t 15 []) (.c (.bool false))⟩,
    ⟨some 17, none, .mv false (.t 16 [])⟩,
    ⟨some 18, some (17, true), .faddr 2 (.t 2 [])⟩,
    ⟨some 19, some (17, true), .load none (.t 18 [2])⟩,
    ⟨some 20, some (17, true), .faddr 2 (.t 3 [])⟩,
    ⟨some 21, some (17, true), .load none (.t 20 [3])⟩,
    ⟨some 22, some (17, true), .bin .eql (.t 19 []) (.t 21 [])⟩,
    ⟨some 23, none, .pick (.t 17 []) (.t 22 []) (.c (.bool false))⟩,
    ⟨some 24, none, .mv false (.t 23 [])⟩,
    ⟨some 25, some (24, true), .faddr 3 (.t 2 [])⟩,
    ⟨some 26, some (24, true), .load none (.t 25 [2])⟩,
    ⟨some 27, some (24, true), .faddr 3 (.t 3 [])⟩,
    ⟨some 28, some (24, true), .load none (.t 27 [3])⟩,
    ⟨some 29, some (24, true), .call 210 [(.t 26 []), (.t 28 [])]⟩,
    ⟨some 30, none, .pick (.t 24 []) (.t 29 []) (.c (.bool false))⟩,
    ⟨some 31, none, .mv false (.t 30 [])⟩,
    ⟨some 32, some (31, true), .faddr 4 (.t 2 [])⟩,
    ⟨some 33, some (31, true), .load none (.t 32 [2])⟩,
    ⟨some 34, some (31, true), .faddr 4 (.t 3 [])⟩,
    ⟨some 35, some (31, true), .load none (.t 34 [3])⟩,
    ⟨some 36, some (31, true), .call 211 [(.t 33 []), (.t 35 [])]⟩,
    ⟨some 37, none, .pick (.t 31 []) (.t 36 []) (.c (.bool false))⟩,
    ⟨some 4, none, .take false (.t 37 [])⟩] [2, 3, 6, 8, 9, 10, 11, 12, 13, 14, 15, 16, 17, 18, 19, 20, 21, 22, 23, 24, 25, 26, 27, 28, 29, 30, 31, 32, 33, 34, 35, 36, 37])
  .ret))),
  [(4, none)], [(false, .deep)]⟩

def a_impl_IsValue : AFunc := ⟨[true], 10,
  (.pre [.kill [1, 2, 3, 4, 5, 6, 7, 8, 9]] (.seq (.region [⟨some 1, none, .box false (.t 0 [])⟩,
    ⟨some 2, none, .take false (.c (.bool false))⟩] [0, 2])
  (.seq (.region [⟨some 3, none, .load (some 5) (.t 1 [1])⟩,
    ⟨some 4, none, .call 74 [(.t 3 [])]⟩,
    ⟨some 5, none, .bin .leq (.t 4 []) (.c (I 300))⟩,
    ⟨some 6, none, .mv false (.t 5 [])⟩,
    ⟨some 7, some (6, true), .load (some 5) (.t 1 [1])⟩,
    ⟨some 8, some (6, true), .call 216 [(.t 7 [])]⟩,
    ⟨some 9, none, .pick (.t 6 []) (.t 8 []) (.c (.bool false))⟩,
    ⟨some 2, none, .take false (.t 9 [])⟩] [1, 3, 4, 5, 6, 7, 8, 9])
  .ret))),
  [(2, none)], [(false, .deep)]⟩

def a_impl_ofType : AFunc := ⟨[true, true], 96,
  (.pre [.kill [2, 3, 4, 5, 6, 7, 8, 9, 10, 11, 12, 13, 14, 15, 16, 17, 18, 19, 20, 21, 22, 23, 24, 25, 26, 27, 28, 29, 30, 31, 32, 33, 34, 35, 36, 37, 38, 39, 40, 41, 42, 43, 44, 45, 46, 47, 48, 49, 50, 51, 52, 53, 54, 55, 56, 57, 58, 59, 60, 61, 62, 63, 64, 65, 66, 67, 68, 69, 70, 71, 72, 73, 74, 75, 76, 77, 78, 79, 80, 81, 82, 83, 84, 85, 86, 87, 88, 89, 90, 91, 92, 93, 94, 95]] (.seq (.region [⟨some 2, none, .box false (.t 0 [])⟩,
    ⟨some 3, none, .box false (.t 1 [])⟩,
    ⟨some 4, none, .take false (.c (.bool false))⟩] [0, 1, 4])
  (.seq (.seq (.region [⟨some 10, none, .faddr 0 (.t 3 [])⟩,
     ⟨some 11, none, .load none (.t 10 [3])⟩] [10])
   (.block 0 (.seq (.region [⟨some 13, none, .bin .eql (.t 11 []) (.c (I 1))⟩,
      ⟨some 12, none, .take false (.t 13 [])⟩] [13])
    (.cond (.t 12 [])
     (.pre [.kill [3, 11, 12]] (.seq (.region [⟨some 14, none, .faddr 0 (.t 2 [])⟩,
       ⟨some 15, none, .load none (.t 14 [2])⟩,
       ⟨some 16, none, .bin .eql (.t 15 []) (.c (I 1))⟩,
       ⟨some 4, none, .take false (.t 16 [])⟩] [2, 15, 16])
     .ret))
     (.pre [.kill [12]] (.seq (.region [⟨some 18, none, .bin .eql (.t 11 []) (.c (I 2))⟩,
       ⟨some 17, none, .take false (.t 18 [])⟩] [18])
     (.cond (.t 17 [])
      (.pre [.kill [3, 11, 17]] (.seq (.region [⟨some 19, none, .faddr 0 (.t 2 [])⟩,
        ⟨some 20, none, .load none (.t 19 [2])⟩,
        ⟨some 21, none, .bin .eql (.t 20 []) (.c (I 2))⟩,
        ⟨some 4, none, .take false (.t 21 [])⟩] [2, 20, 21])
      .ret))
      (.pre [.kill [17]] (.seq (.region [⟨some 23, none, .bin .eql (.t 11 []) (.c (I 3))⟩,
        ⟨some 22, none, .take false (.t 23 [])⟩] [23])
      (.cond (.t 22 [])
       (.pre [.kill [11, 22]] (.seq (.seq (.region [⟨some 24, none, .faddr 0 (.t 2 [])⟩,
          ⟨some 25, none, .load none (.t 24 [2])⟩,
          ⟨some 26, none, .bin .neq (.t 25 []) (.c (I 3))⟩,
          ⟨some 27, none, .mv false (.t 26 [])⟩,
          ⟨some 28, some (27, false), .faddr 3 (.t 2 [])⟩,
          ⟨some 29, some (27, false), .load none (.t 28 [2])⟩,
          ⟨some 30, some (27, false), .faddr 1 (.t 3 [])⟩,
          ⟨some 31, some (27, false), .load none (.t 30 [3])⟩,
          ⟨some 32, some (27, false), .call 210 [(.t 29 []), (.t 31 [])]⟩,
          ⟨some 33, some (27, false), .un .not (.t 32 [])⟩,
          ⟨some 34, none, .pick (.t 27 []) (.c (.bool true)) (.t 33 [])⟩] [24, 25, 26, 27, 28, 29, 30, 31, 32, 33])
        (.cond (.t 34 [])
         (.pre [.kill [2, 3, 34]] (.seq (.region [⟨some 4, none, .take false (.c (.bool false))⟩] [])
         .ret))
         (.pre [.kill [34]] .skip)))
       (.seq (.seq (.region [⟨some 35, none, .faddr 4 (.t 2 [])⟩,
          ⟨some 36, none, .load none (.t 35 [2])⟩,
          ⟨some 37, none, .len (.t 36 [])⟩,
          ⟨some 38, none, .take false (.c (I 0))⟩] [2])
        (.block 1 (.pre [.kill [4, 5, 6, 39, 40, 41, 42, 43, 44, 45, 46, 47, 48, 49, 50, 51]] (.loop (.seq (.region [⟨some 39, none, .bin .lss (.t 38 []) (.t 37 [])⟩] [])
          (.seq (.cond (.t 39 [])
            (.pre [.kill [39]] .skip)
            (.pre [.kill [3, 36, 37, 38, 39]] (.exit 1)))
          (.seq (.block 2 (.seq (.region [⟨some 40, none, .mv false (.t 38 [])⟩,
              ⟨some 41, none, .iaddr 5 (.t 36 []) (.t 38 [])⟩,
              ⟨some 42, none, .load (some 5) (.t 41 [])⟩,
              ⟨some 6, none, .alloc false [I0, I0, S0, (Z 1), (Z 5)] [.deep, .deep, .deep, .deep, .deep]⟩,
              ⟨some 5, none, .take false (.t 40 [])⟩,
              ⟨none, none, .store 5 (.t 6 [6]) (.t 42 [])⟩] [40, 41, 42])
            (.seq (.region [⟨some 43, none, .load (some 5) (.t 6 [6])⟩,
              ⟨some 44, none, .faddr 2 (.t 3 [])⟩,
              ⟨some 45, none, .load none (.t 44 [3])⟩,
              ⟨some 46, none, .mv false (.t 5 [])⟩,
              ⟨some 47, none, .iaddr 3 (.t 45 []) (.t 46 [])⟩,
              ⟨some 48, none, .load (some 3) (.t 47 [])⟩,
              ⟨some 49, none, .call 238 [(.t 43 []), (.t 48 [])]⟩,
              ⟨some 50, none, .un .not (.t 49 [])⟩] [5, 6, 43, 44, 45, 46, 47, 48, 49])
            (.cond (.t 50 [])
             (.pre [.kill [3, 36, 37, 38, 50]] (.seq (.region [⟨some 4, none, .take false (.c (.bool false))⟩] [])
             .ret))
             (.pre [.kill [50]] .skip)))))
          (.region [⟨some 51, none, .bin .add (.t 38 []) (.c (I 1))⟩,
           ⟨some 38, none, .mv false (.t 51 [])⟩] [51]))))))))
       (.seq (.region [⟨some 4, none, .take false (.c (.bool true))⟩] [])
       .ret))))
       (.pre [.kill [22]] (.seq (.region [⟨some 53, none, .bin .eql (.t 11 []) (.c (I 4))⟩,
         ⟨some 52, none, .take false (.t 53 [])⟩] [11, 53])
       (.cond (.t 52 [])
        (.pre [.kill [52]] (.seq (.region [⟨some 54, none, .faddr 1 (.t 3 [])⟩,
          ⟨some 55, none, .load none (.t 54 [3])⟩,
          ⟨some 56, none, .faddr 2 (.t 2 [])⟩,
          ⟨some 57, none, .load none (.t 56 [2])⟩,
          ⟨some 58, none, .call 225 [(.t 55 []), (.t 57 [])]⟩,
          ⟨some 7, none, .take false (.t 58 [])⟩] [54, 55, 56, 57, 58])
        (.seq (.region [⟨some 59, none, .faddr 0 (.t 2 [])⟩,
          ⟨some 60, none, .load none (.t 59 [2])⟩,
          ⟨some 61, none, .bin .eql (.t 60 []) (.c (I 4))⟩,
          ⟨some 62, none, .mv false (.t 61 [])⟩,
          ⟨some 63, some (62, true), .mv false (.t 7 [])⟩,
          ⟨some 64, some (62, true), .bin .geq (.t 63 []) (.c (I 0))⟩,
          ⟨some 65, none, .pick (.t 62 []) (.t 64 []) (.c (.bool false))⟩,
          ⟨some 66, none, .mv false (.t 65 [])⟩,
          ⟨some 67, some (66, true), .faddr 4 (.t 2 [])⟩,
          ⟨some 68, some (66, true), .load none (.t 67 [2])⟩,
          ⟨some 69, some (66, true), .iaddr 5 (.t 68 []) (.c (I 0))⟩,
          ⟨some 70, some (66, true), .load (some 5) (.t 69 [])⟩,
          ⟨some 71, some (66, true), .faddr 2 (.t 3 [])⟩,
          ⟨some 72, some (66, true), .load none (.t 71 [3])⟩,
          ⟨some 73, some (66, true), .mv false (.t 7 [])⟩,
          ⟨some 74, some (66, true), .iaddr 3 (.t 72 []) (.t 73 [])⟩,
          ⟨some 75, some (66, true), .load (some 3) (.t 74 [])⟩,
          ⟨some 76, some (66, true), .call 238 [(.t 70 []), (.t 75 [])]⟩,
          ⟨some 77, none, .pick (.t 66 []) (.t 76 []) (.c (.bool false))⟩,
          ⟨some 4, none, .take false (.t 77 [])⟩] [2, 3, 7, 60, 61, 62, 63, 64, 65, 66, 67, 68, 69, 70, 71, 72, 73, 74, 75, 76, 77])
        .ret)))
        (.pre [.kill [52]] .skip))))))))))))))
  (.seq (.seq (.region [⟨some 78, none, .faddr 0 (.t 2 [])⟩,
     ⟨some 79, none, .load none (.t 78 [2])⟩,
     ⟨some 80, none, .bin .neq (.t 79 []) (.c (I 5))⟩] [78, 79])
   (.cond (.t 80 [])
    (.pre [.kill [2, 3, 80]] (.seq (.region [⟨some 4, none, .take false (.c (.bool false))⟩] [])
    .ret))
    (.pre [.kill [80]] .skip)))
  (.seq (.seq (.region [⟨some 81, none, .faddr 4 (.t 2 [])⟩,
     ⟨some 82, none, .load none (.t 81 [2])⟩,
     ⟨some 83, none, .len (.t 82 [])⟩,
     ⟨some 84, none, .take false (.c (I 0))⟩] [2])
   (.block 3 (.pre [.kill [4, 9, 85, 86, 87, 88, 89, 90, 91, 92, 93, 94, 95]] (.loop (.seq (.region [⟨some 85, none, .bin .lss (.t 84 []) (.t 83 [])⟩] [])
     (.seq (.cond (.t 85 [])
       (.pre [.kill [85]] .skip)
       (.pre [.kill [3, 82, 83, 84, 85]] (.exit 3)))
     (.seq (.block 4 (.seq (.region [⟨some 86, none, .iaddr 5 (.t 82 []) (.t 84 [])⟩,
         ⟨some 87, none, .load (some 5) (.t 86 [])⟩,
         ⟨some 9, none, .alloc false [I0, I0, S0, (Z 1), (Z 5)] [.deep, .deep, .deep, .deep, .deep]⟩,
         ⟨none, none, .store 5 (.t 9 [9]) (.t 87 [])⟩] [86, 87])
       (.seq (.region [⟨some 88, none, .load (some 5) (.t 9 [9])⟩,
         ⟨some 89, none, .faddr 2 (.t 3 [])⟩,
         ⟨some 90, none, .load none (.t 89 [3])⟩,
         ⟨some 91, none, .iaddr 3 (.t 90 []) (.c (I 0))⟩,
         ⟨some 92, none, .load (some 3) (.t 91 [])⟩,
         ⟨some 93, none, .call 238 [(.t 88 []), (.t 92 [])]⟩,
         ⟨some 94, none, .un .not (.t 93 [])⟩] [9, 88, 89, 90, 91, 92, 93])
       (.cond (.t 94 [])
        (.pre [.kill [3, 82, 83, 84, 94]] (.seq (.region [⟨some 4, none, .take false (.c (.bool false))⟩] [])
        .ret))
        (.pre [.kill [94]] .skip)))))
     (.region [⟨some 95, none, .bin .add (.t 84 []) (.c (I 1))⟩,
      ⟨some 84, none, .mv false (.t 95 [])⟩] [95]))))))))
  (.seq (.region [⟨some 4, none, .take false (.c (.bool true))⟩] [])
  .ret)))))),
  [(4, none)], [(false, .deep)]⟩

def a_laws_eqValueS : AFunc := ⟨[false, false], 27,
  (.pre [.kill [2, 3, 4, 5, 6, 7, 8, 9, 10, 11, 12, 13, 14, 15, 16, 17, 18, 19, 20, 21, 22, 23, 24, 25, 26]] (.seq (.region [⟨some 4, none, .take false (.c (.bool false))⟩] [4])
  (.seq (.seq (.region [⟨some 6, none, .mv false (.t 0 [])⟩,
     ⟨some 7, none, .len (.t 6 [])⟩,
     ⟨some 8, none, .mv false (.t 1 [])⟩,
     ⟨some 9, none, .len (.t 8 [])⟩,
     ⟨some 10, none, .bin .neq (.t 7 []) (.t 9 [])⟩] [6, 7, 8, 9])
   (.cond (.t 10 [])
    (.pre [.kill [0, 1, 10]] (.seq (.region [⟨some 4, none, .take false (.c (.bool false))⟩] [])
    .ret))
    (.pre [.kill [10]] .skip)))
  (.seq (.seq (.region [⟨some 5, none, .take false (.c (I 0))⟩] [])
   (.block 0 (.pre [.kill [4, 11, 12, 13, 14, 15, 16, 17, 18, 19, 20, 21, 22, 23, 24, 25, 26]] (.loop (.seq (.seq (.region [⟨some 11, none, .mv false (.t 5 [])⟩,
        ⟨some 12, none, .mv false (.t 0 [])⟩,
        ⟨some 13, none, .len (.t 12 [])⟩,
        ⟨some 14, none, .bin .lss (.t 11 []) (.t 13 [])⟩] [11, 12, 13])
      (.cond (.t 14 [])
       (.pre [.kill [14]] .skip)
       (.pre [.kill [0, 1, 5, 14]] (.exit 0))))
     (.seq (.block 1 (.seq (.region [⟨some 17, none, .mv false (.t 0 [])⟩,
         ⟨some 18, none, .mv false (.t 5 [])⟩,
         ⟨some 19, none, .iaddr 5 (.t 17 []) (.t 18 [])⟩,
         ⟨some 20, none, .load (some 5) (.t 19 [])⟩,
         ⟨some 21, none, .mv false (.t 1 [])⟩,
         ⟨some 22, none, .mv false (.t 5 [])⟩,
         ⟨some 23, none, .iaddr 5 (.t 21 []) (.t 22 [])⟩,
         ⟨some 24, none, .load (some 5) (.t 23 [])⟩,
         ⟨some 25, none, .call 81 [(.t 20 []), (.t 24 [])]⟩,
         ⟨some 26, none, .un .not (.t 25 [])⟩] [17, 18, 19, 20, 21, 22, 23, 24, 25])
       (.cond (.t 26 [])
        (.pre [.kill [0, 1, 5, 26]] (.seq (.region [⟨some 4, none, .take false (.c (.bool false))⟩] [])
        .ret))
        (.pre [.kill [26]] .skip))))
     (.region [⟨some 15, none, .mv false (.t 5 [])⟩,
      ⟨some 16, none, .bin .add (.t 15 []) (.c (I 1))⟩,
      ⟨some 5, none, .take false (.t 16 [])⟩] [15, 16])))))))
  (.seq (.region [⟨some 4, none, .take false (.c (.bool true))⟩] [])
  .ret))))),
  [(4, none)], [(false, .deep)]⟩

def a_spec_l1Max : AFunc := ⟨[false, false], 10,
  (.pre [.kill [2, 3, 4, 5, 6, 7, 8, 9]] (.seq (.region [⟨some 4, none, .take false (.c (I 0))⟩] [4])
  (.seq (.seq (.region [⟨some 5, none, .mv false (.t 0 [])⟩,
     ⟨some 6, none, .mv false (.t 1 [])⟩,
     ⟨some 7, none, .bin .gtr (.t 5 []) (.t 6 [])⟩] [5, 6])
   (.cond (.t 7 [])
    (.pre [.kill [1, 7]] (.seq (.region [⟨some 8, none, .mv false (.t 0 [])⟩,
      ⟨some 4, none, .take false (.t 8 [])⟩] [0, 8])
    .ret))
    (.pre [.kill [0, 7]] .skip)))
  (.seq (.region [⟨some 9, none, .mv false (.t 1 [])⟩,
    ⟨some 4, none, .take false (.t 9 [])⟩] [1, 9])
  .ret)))),
  [(4, none)], [(false, .deep)]⟩

def a_spec_l3Labels : AFunc := ⟨[false], 23,
  (.pre [.kill [1, 2, 3, 4, 5, 6, 7, 8, 9, 10, 11, 12, 13, 14, 15, 16, 17, 18, 19, 20, 21, 22]] (.seq (.region [⟨some 2, none, .take false (.c (.bool false))⟩] [2])
  (.seq (.seq (.region [⟨some 3, none, .take false (.c (I 0))⟩] [])
   (.block 0 (.pre [.kill [2, 4, 5, 6, 7, 8, 9, 10, 11, 12, 13, 14, 15]] (.loop (.seq (.seq (.region [⟨some 4, none, .mv false (.t 3 [])⟩,
        ⟨some 5, none, .mv false (.t 0 [])⟩,
        ⟨some 6, none, .len (.t 5 [])⟩,
        ⟨some 7, none, .bin .lss (.t 4 []) (.t 6 [])⟩] [4, 5, 6])
      (.cond (.t 7 [])
       (.pre [.kill [7]] .skip)
       (.pre [.kill [3, 7]] (.exit 0))))
     (.seq (.block 1 (.seq (.region [⟨some 10, none, .mv false (.t 0 [])⟩,
         ⟨some 11, none, .mv false (.t 3 [])⟩,
         ⟨some 12, none, .iaddr 1 (.t 10 []) (.t 11 [])⟩,
         ⟨some 13, none, .load none (.t 12 [])⟩,
         ⟨some 14, none, .call 62 [(.t 13 [])]⟩,
         ⟨some 15, none, .un .not (.t 14 [])⟩] [10, 11, 12, 13, 14])
       (.cond (.t 15 [])
        (.pre [.kill [0, 3, 15]] (.seq (.region [⟨some 2, none, .take false (.c (.bool false))⟩] [])
        .ret))
        (.pre [.kill [15]] .skip))))
     (.region [⟨some 8, none, .mv false (.t 3 [])⟩,
      ⟨some 9, none, .bin .add (.t 8 []) (.c (I 1))⟩,
      ⟨some 3, none, .take false (.t 9 [])⟩] [8, 9])))))))
  (.seq (.region [⟨some 16, none, .mv false (.t 0 [])⟩,
    ⟨some 17, none, .len (.t 16 [])⟩,
    ⟨some 18, none, .call 63 [(.t 17 []), (.c (I 1)), (.c (I 4))]⟩,
    ⟨some 19, none, .mv false (.t 18 [])⟩,
    ⟨some 20, some (19, true), .mv false (.t 0 [])⟩,
    ⟨some 21, some (19, true), .call 245 [(.t 20 [])]⟩,
    ⟨some 22, none, .pick (.t 19 []) (.t 21 []) (.c (.bool false))⟩,
    ⟨some 2, none, .take false (.t 22 [])⟩] [0, 16, 17, 18, 19, 20, 21, 22])
  .ret)))),
  [(2, none)], [(false, .deep)]⟩

def a_spec_l5Left : AFunc := ⟨[true, false], 27,
  (.pre [.kill [2, 3, 4, 5, 6, 7, 8, 9, 10, 11, 12, 13, 14, 15, 16, 17, 18, 19, 20, 21, 22, 23, 24, 25, 26]] (.seq (.region [⟨some 2, none, .box false (.t 0 [])⟩,
    ⟨some 4, none, .take false (.c (I 0))⟩] [0, 4])
  (.seq (.region [⟨some 6, none, .mv false (.t 1 [])⟩,
    ⟨some 7, none, .bin .sub (.t 6 []) (.c (I 1))⟩,
    ⟨some 1, none, .take false (.t 7 [])⟩] [6, 7])
  (.seq (.seq (.region [⟨some 5, none, .take false (.c (I 0))⟩] [])
   (.block 0 (.pre [.kill [8, 9, 10, 11, 12, 13, 14, 15, 16, 17, 18, 19, 20, 21, 22, 23, 24, 25]] (.loop (.seq (.seq (.region [⟨some 8, none, .mv false (.t 5 [])⟩,
        ⟨some 9, none, .faddr 4 (.t 2 [])⟩,
        ⟨some 10, none, .load none (.t 9 [2])⟩,
        ⟨some 11, none, .len (.t 10 [])⟩,
        ⟨some 12, none, .bin .lss (.t 8 []) (.t 11 [])⟩,
        ⟨some 13, none, .mv false (.t 12 [])⟩,
        ⟨some 14, some (13, true), .mv false (.t 1 [])⟩,
        ⟨some 15, some (13, true), .bin .geq (.t 14 []) (.c (I 0))⟩,
        ⟨some 16, none, .pick (.t 13 []) (.t 15 []) (.c (.bool false))⟩] [8, 9, 10, 11, 12, 13, 14, 15])
      (.cond (.t 16 [])
       (.pre [.kill [16]] .skip)
       (.pre [.kill [2, 5, 16]] (.exit 0))))
     (.seq (.block 1 (.region [⟨some 19, none, .faddr 4 (.t 2 [])⟩,
        ⟨some 20, none, .load none (.t 19 [2])⟩,
        ⟨some 21, none, .mv false (.t 5 [])⟩,
        ⟨some 22, none, .iaddr 5 (.t 20 []) (.t 21 [])⟩,
        ⟨some 23, none, .load (some 5) (.t 22 [])⟩,
        ⟨some 24, none, .mv false (.t 1 [])⟩,
        ⟨some 25, none, .call 212 [(.t 23 []), (.t 24 [])]⟩,
        ⟨some 1, none, .take false (.t 25 [])⟩] [19, 20, 21, 22, 23, 24, 25]))
     (.region [⟨some 17, none, .mv false (.t 5 [])⟩,
      ⟨some 18, none, .bin .add (.t 17 []) (.c (I 1))⟩,
      ⟨some 5, none, .take false (.t 18 [])⟩] [17, 18])))))))
  (.seq (.region [⟨some 26, none, .mv false (.t 1 [])⟩,
    ⟨some 4, none, .take false (.t 26 [])⟩] [1, 26])
  .ret))))),
  [(4, none)], [(false, .deep)]⟩

def a_spec_l5Form : AFunc := ⟨[true], 101,
  (.pre [.kill [1, 2, 3, 4, 5, 6, 7, 8, 9, 10, 11, 12, 13, 14, 15, 16, 17, 18, 19, 20, 21, 22, 23, 24, 25, 26, 27, 28, 29, 30, 31, 32, 33, 34, 35, 36, 37, 38, 39, 40, 41, 42, 43, 44, 45, 46, 47, 48, 49, 50, 51, 52, 53, 54, 55, 56, 57, 58, 59, 60, 61, 62, 63, 64, 65, 66, 67, 68, 69, 70, 71, 72, 73, 74, 75, 76, 77, 78, 79, 80, 81, 82, 83, 84, 85, 86, 87, 88, 89, 90, 91, 92, 93, 94, 95, 96, 97, 98, 99, 100]] (.seq (.region [⟨some 1, none, .box false (.t 0 [])⟩,
    ⟨some 2, none, .take false (.c (.bool false))⟩] [0, 2])
  (.seq (.seq (.region [⟨some 3, none, .take false (.c (I 0))⟩] [])
   (.block 0 (.pre [.kill [2, 5, 6, 7, 8, 9, 10, 11, 12, 13, 14, 15, 16, 17, 18]] (.loop (.seq (.seq (.region [⟨some 5, none, .mv false (.t 3 [])⟩,
        ⟨some 6, none, .faddr 4 (.t 1 [])⟩,
        ⟨some 7, none, .load none (.t 6 [1])⟩,
        ⟨some 8, none, .len (.t 7 [])⟩,
        ⟨some 9, none, .bin .lss (.t 5 []) (.t 8 [])⟩] [5, 6, 7, 8])
      (.cond (.t 9 [])
       (.pre [.kill [9]] .skip)
       (.pre [.kill [3, 9]] (.exit 0))))
     (.seq (.block 1 (.seq (.region [⟨some 12, none, .faddr 4 (.t 1 [])⟩,
         ⟨some 13, none, .load none (.t 12 [1])⟩,
         ⟨some 14, none, .mv false (.t 3 [])⟩,
         ⟨some 15, none, .iaddr 5 (.t 13 []) (.t 14 [])⟩,
         ⟨some 16, none, .load (some 5) (.t 15 [])⟩,
         ⟨some 17, none, .call 213 [(.t 16 [])]⟩,
         ⟨some 18, none, .un .not (.t 17 [])⟩] [12, 13, 14, 15, 16, 17])
       (.cond (.t 18 [])
        (.pre [.kill [1, 3, 18]] (.seq (.region [⟨some 2, none, .take false (.c (.bool false))⟩] [])
        .ret))
        (.pre [.kill [18]] .skip))))
     (.region [⟨some 10, none, .mv false (.t 3 [])⟩,
      ⟨some 11, none, .bin .add (.t 10 []) (.c (I 1))⟩,
      ⟨some 3, none, .take false (.t 11 [])⟩] [10, 11])))))))
  (.seq (.region [⟨some 19, none, .faddr 0 (.t 1 [])⟩,
    ⟨some 20, none, .load none (.t 19 [1])⟩,
    ⟨some 21, none, .bin .eql (.t 20 []) (.c (I 4))⟩,
    ⟨some 4, none, .take false (.t 21 [])⟩] [19, 20, 21])
  (.seq (.seq (.region [⟨some 22, none, .mv false (.t 4 [])⟩,
     ⟨some 23, none, .faddr 2 (.t 1 [])⟩,
     ⟨some 24, none, .load none (.t 23 [1])⟩,
     ⟨some 25, none, .call 62 [(.t 24 [])]⟩,
     ⟨some 26, none, .eqB true (.t 22 []) (.t 25 [])⟩,
     ⟨some 27, none, .mv false (.t 26 [])⟩,
     ⟨some 28, some (27, false), .mv false (.t 4 [])⟩,
     ⟨some 29, some (27, false), .un .not (.t 28 [])⟩,
     ⟨some 30, some (27, false), .mv false (.t 29 [])⟩,
     ⟨some 31, some (30, true), .faddr 2 (.t 1 [])⟩,
     ⟨some 32, some (30, true), .load none (.t 31 [1])⟩,
     ⟨some 33, some (30, true), .bin .neq (.t 32 []) (.c (.str ⟨#[]⟩))⟩,
     ⟨some 34, some (27, false), .pick (.t 30 []) (.t 33 []) (.c (.bool false))⟩,
     ⟨some 35, none, .pick (.t 27 []) (.c (.bool true)) (.t 34 [])⟩,
     ⟨some 36, none, .mv false (.t 35 [])⟩,
     ⟨some 37, some (36, false), .faddr 0 (.t 1 [])⟩,
     ⟨some 38, some (36, false), .load none (.t 37 [1])⟩,
     ⟨some 39, some (36, false), .bin .neq (.t 38 []) (.c (I 3))⟩,
     ⟨some 40, some (36, false), .mv false (.t 39 [])⟩,
     ⟨some 41, some (40, true), .faddr 3 (.t 1 [])⟩,
     ⟨some 42, some (40, true), .load none (.t 41 [1])⟩,
     ⟨some 43, some (40, true), .len (.t 42 [])⟩,
     ⟨some 44, some (40, true), .bin .gtr (.t 43 []) (.c (I 0))⟩,
     ⟨some 45, some (36, false), .pick (.t 40 []) (.t 44 []) (.c (.bool false))⟩,
     ⟨some 46, none, .pick (.t 36 []) (.c (.bool true)) (.t 45 [])⟩] [4, 22, 23, 24, 25, 26, 27, 28, 29, 30, 31, 32, 33, 34, 35, 36, 37, 38, 39, 40, 41, 42, 43, 44, 45])
   (.cond (.t 46 [])
    (.pre [.kill [1, 46]] (.seq (.region [⟨some 2, none, .take false (.c (.bool false))⟩] [])
    .ret))
    (.pre [.kill [46]] .skip)))
  (.seq (.seq (.region [⟨some 47, none, .faddr 0 (.t 1 [])⟩,
     ⟨some 48, none, .load none (.t 47 [1])⟩] [47])
   (.block 2 (.seq (.region [⟨some 50, none, .bin .eql (.t 48 []) (.c (I 1))⟩,
      ⟨some 49, none, .take false (.t 50 [])⟩] [50])
    (.cond (.t 49 [])
     (.pre [.kill [48, 49]] (.seq (.region [⟨some 51, none, .faddr 4 (.t 1 [])⟩,
       ⟨some 52, none, .load none (.t 51 [1])⟩,
       ⟨some 53, none, .len (.t 52 [])⟩,
       ⟨some 54, none, .bin .eql (.t 53 []) (.c (I 0))⟩,
       ⟨some 2, none, .take false (.t 54 [])⟩] [1, 52, 53, 54])
     .ret))
     (.pre [.kill [49]] (.seq (.region [⟨some 56, none, .bin .eql (.t 48 []) (.c (I 2))⟩,
       ⟨some 55, none, .take false (.t 56 [])⟩] [56])
     (.cond (.t 55 [])
      (.pre [.kill [48, 55]] (.seq (.region [⟨some 57, none, .faddr 4 (.t 1 [])⟩,
        ⟨some 58, none, .load none (.t 57 [1])⟩,
        ⟨some 59, none, .len (.t 58 [])⟩,
        ⟨some 60, none, .bin .eql (.t 59 []) (.c (I 0))⟩,
        ⟨some 61, none, .mv false (.t 60 [])⟩,
        ⟨some 62, some (61, true), .faddr 1 (.t 1 [])⟩,
        ⟨some 63, some (61, true), .load none (.t 62 [1])⟩,
        ⟨some 64, some (61, true), .call 63 [(.t 63 []), (.c (I 0)), (.c (I 1))]⟩,
        ⟨some 65, none, .pick (.t 61 []) (.t 64 []) (.c (.bool false))⟩,
        ⟨some 2, none, .take false (.t 65 [])⟩] [1, 58, 59, 60, 61, 62, 63, 64, 65])
      .ret))
      (.pre [.kill [55]] (.seq (.region [⟨some 67, none, .bin .eql (.t 48 []) (.c (I 3))⟩,
        ⟨some 66, none, .take false (.t 67 [])⟩] [67])
      (.cond (.t 66 [])
       (.pre [.kill [48, 66]] (.seq (.region [⟨some 68, none, .faddr 1 (.t 1 [])⟩,
         ⟨some 69, none, .load none (.t 68 [1])⟩,
         ⟨some 70, none, .bin .eql (.t 69 []) (.c (I 0))⟩,
         ⟨some 71, none, .mv false (.t 70 [])⟩,
         ⟨some 72, some (71, true), .faddr 3 (.t 1 [])⟩,
         ⟨some 73, some (71, true), .load none (.t 72 [1])⟩,
         ⟨some 74, some (71, true), .len (.t 73 [])⟩,
         ⟨some 75, some (71, true), .faddr 4 (.t 1 [])⟩,
         ⟨some 76, some (71, true), .load none (.t 75 [1])⟩,
         ⟨some 77, some (71, true), .len (.t 76 [])⟩,
         ⟨some 78, some (71, true), .bin .eql (.t 74 []) (.t 77 [])⟩,
         ⟨some 79, none, .pick (.t 71 []) (.t 78 []) (.c (.bool false))⟩,
         ⟨some 80, none, .mv false (.t 79 [])⟩,
         ⟨some 81, some (80, true), .faddr 3 (.t 1 [])⟩,
         ⟨some 82, some (80, true), .load none (.t 81 [1])⟩,
         ⟨some 83, some (80, true), .call 240 [(.t 82 [])]⟩,
         ⟨some 84, none, .pick (.t 80 []) (.t 83 []) (.c (.bool false))⟩,
         ⟨some 2, none, .take false (.t 84 [])⟩] [1, 69, 70, 71, 72, 73, 74, 75, 76, 77, 78, 79, 80, 81, 82, 83, 84])
       .ret))
       (.pre [.kill [66]] (.seq (.region [⟨some 86, none, .bin .eql (.t 48 []) (.c (I 4))⟩,
         ⟨some 85, none, .take false (.t 86 [])⟩] [86])
       (.cond (.t 85 [])
        (.pre [.kill [48, 85]] (.seq (.region [⟨some 87, none, .faddr 1 (.t 1 [])⟩,
          ⟨some 88, none, .load none (.t 87 [1])⟩,
          ⟨some 89, none, .bin .eql (.t 88 []) (.c (I 0))⟩,
          ⟨some 90, none, .mv false (.t 89 [])⟩,
          ⟨some 91, some (90, true), .faddr 4 (.t 1 [])⟩,
          ⟨some 92, some (90, true), .load none (.t 91 [1])⟩,
          ⟨some 93, some (90, true), .len (.t 92 [])⟩,
          ⟨some 94, some (90, true), .bin .eql (.t 93 []) (.c (I 1))⟩,
          ⟨some 95, none, .pick (.t 90 []) (.t 94 []) (.c (.bool false))⟩,
          ⟨some 2, none, .take false (.t 95 [])⟩] [1, 88, 89, 90, 91, 92, 93, 94, 95])
        .ret))
        (.pre [.kill [85]] (.seq (.region [⟨some 97, none, .bin .eql (.t 48 []) (.c (I 5))⟩,
          ⟨some 96, none, .take false (.t 97 [])⟩] [48, 97])
        (.cond (.t 96 [])
         (.pre [.kill [96]] (.seq (.region [⟨some 98, none, .faddr 1 (.t 1 [])⟩,
           ⟨some 99, none, .load none (.t 98 [1])⟩,
           ⟨some 100, none, .bin .eql (.t 99 []) (.c (I 0))⟩,
           ⟨some 2, none, .take false (.t 100 [])⟩] [1, 99, 100])
         .ret))
         (.pre [.kill [1, 96]] .skip)))))))))))))))))
  (.seq (.region [⟨some 2, none, .take false (.c (.bool false))⟩] [])
  .ret))))))),
  [(2, none)], [(false, .deep)]⟩

def a_spec_l3Texts : AFunc := ⟨[false, false], 26,
  (.pre [.kill [2, 3, 4, 5, 6, 7, 8, 9, 10, 11, 12, 13, 14, 15, 16, 17, 18, 19, 20, 21, 22, 23, 24, 25]] (.seq (.region [⟨some 4, none, .take false (.c (.bool false))⟩] [4])
  (.seq (.seq (.region [⟨some 6, none, .mv false (.t 0 [])⟩,
     ⟨some 7, none, .len (.t 6 [])⟩,
     ⟨some 8, none, .mv false (.t 1 [])⟩,
     ⟨some 9, none, .len (.t 8 [])⟩,
     ⟨some 10, none, .bin .neq (.t 7 []) (.t 9 [])⟩] [6, 7, 8, 9])
   (.cond (.t 10 [])
    (.pre [.kill [0, 1, 10]] (.seq (.region [⟨some 4, none, .take false (.c (.bool false))⟩] [])
    .ret))
    (.pre [.kill [10]] .skip)))
  (.seq (.seq (.region [⟨some 5, none, .take false (.c (I 0))⟩] [])
   (.block 0 (.pre [.kill [4, 11, 12, 13, 14, 15, 16, 17, 18, 19, 20, 21, 22, 23, 24, 25]] (.loop (.seq (.seq (.region [⟨some 11, none, .mv false (.t 5 [])⟩,
        ⟨some 12, none, .mv false (.t 0 [])⟩,
        ⟨some 13, none, .len (.t 12 [])⟩,
        ⟨some 14, none, .bin .lss (.t 11 []) (.t 13 [])⟩] [11, 12, 13])
      (.cond (.t 14 [])
       (.pre [.kill [14]] .skip)
       (.pre [.kill [0, 1, 5, 14]] (.exit 0))))
     (.seq (.block 1 (.seq (.region [⟨some 17, none, .mv false (.t 0 [])⟩,
         ⟨some 18, none, .mv false (.t 5 [])⟩,
         ⟨some 19, none, .iaddr 1 (.t 17 []) (.t 18 [])⟩,
         ⟨some 20, none, .load none (.t 19 [])⟩,
         ⟨some 21, none, .mv false (.t 1 [])⟩,
         ⟨some 22, none, .mv false (.t 5 [])⟩,
         ⟨some 23, none, .iaddr 1 (.t 21 []) (.t 22 [])⟩,
         ⟨some 24, none, .load none (.t 23 [])⟩,
         ⟨some 25, none, .bin .neq (.t 20 []) (.t 24 [])⟩] [17, 18, 19, 20, 21, 22, 23, 24])
       (.cond (.t 25 [])
        (.pre [.kill [0, 1, 5, 25]] (.seq (.region [⟨some 4, none, .take false (.c (.bool false))⟩] [])
        .ret))
        (.pre [.kill [25]] .skip))))
     (.region [⟨some 15, none, .mv false (.t 5 [])⟩,
      ⟨some 16, none, .bin .add (.t 15 []) (.c (I 1))⟩,
      ⟨some 5, none, .take false (.t 16 [])⟩] [15, 16])))))))
  (.seq (.region [⟨some 4, none, .take false (.c (.bool true))⟩] [])
  .ret))))),
  [(4, none)], [(false, .deep)]⟩

def a_spec_IndexOf : AFunc := ⟨[false, false], 19,
  (.pre [.kill [2, 3, 4, 5, 6, 7, 8, 9, 10, 11, 12, 13, 14, 15, 16, 17, 18]] (.seq (.region [⟨some 4, none, .take false (.c (I 0))⟩] [4])
  (.seq (.seq (.region [⟨some 5, none, .take false (.c (I 0))⟩] [])
   (.block 0 (.pre [.kill [4, 6, 7, 8, 9, 10, 11, 12, 13, 14, 15, 16, 17, 18]] (.loop (.seq (.seq (.region [⟨some 6, none, .mv false (.t 5 [])⟩,
        ⟨some 7, none, .mv false (.t 0 [])⟩,
        ⟨some 8, none, .len (.t 7 [])⟩,
        ⟨some 9, none, .bin .lss (.t 6 []) (.t 8 [])⟩] [6, 7, 8])
      (.cond (.t 9 [])
       (.pre [.kill [9]] .skip)
       (.pre [.kill [0, 1, 5, 9]] (.exit 0))))
     (.seq (.block 1 (.seq (.region [⟨some 12, none, .mv false (.t 0 [])⟩,
         ⟨some 13, none, .mv false (.t 5 [])⟩,
         ⟨some 14, none, .iaddr 1 (.t 12 []) (.t 13 [])⟩,
         ⟨some 15, none, .load none (.t 14 [])⟩,
         ⟨some 16, none, .mv false (.t 1 [])⟩,
         ⟨some 17, none, .bin .eql (.t 15 []) (.t 16 [])⟩] [12, 13, 14, 15, 16])
       (.cond (.t 17 [])
        (.pre [.kill [0, 1, 17]] (.seq (.region [⟨some 18, none, .mv false (.t 5 [])⟩,
          ⟨some 4, none, .take false (.t 18 [])⟩] [5, 18])
        .ret))
        (.pre [.kill [17]] .skip))))
     (.region [⟨some 10, none, .mv false (.t 5 [])⟩,
      ⟨some 11, none, .bin .add (.t 10 []) (.c (I 1))⟩,
      ⟨some 5, none, .take false (.t 11 [])⟩] [10, 11])))))))
  (.seq (.region [⟨some 4, none, .take false (.c (I (-1)))⟩] [])
  .ret)))),
  [(4, none)], [(false, .deep)]⟩

def a_impl_labelsOk : AFunc := ⟨[false], 28,
  (.pre [.kill [1, 2, 3, 4, 5, 6, 7, 8, 9, 10, 11, 12, 13, 14, 15, 16, 17, 18, 19, 20, 21, 22, 23, 24, 25, 26, 27]] (.seq (.region [⟨some 2, none, .take false (.c (.bool false))⟩] [2])
  (.seq (.seq (.region [⟨some 5, none, .mv false (.t 0 [])⟩,
     ⟨some 6, none, .len (.t 5 [])⟩,
     ⟨some 7, none, .bin .lss (.t 6 []) (.c (I 1))⟩,
     ⟨some 8, none, .mv false (.t 7 [])⟩,
     ⟨some 9, some (8, false), .mv false (.t 0 [])⟩,
     ⟨some 10, some (8, false), .len (.t 9 [])⟩,
     ⟨some 11, some (8, false), .bin .gtr (.t 10 []) (.c (I 4))⟩,
     ⟨some 12, none, .pick (.t 8 []) (.c (.bool true)) (.t 11 [])⟩,
     ⟨some 13, none, .mv false (.t 12 [])⟩,
     ⟨some 14, some (13, false), .mv false (.t 0 [])⟩,
     ⟨some 15, some (13, false), .call 246 [(.t 14 [])]⟩,
     ⟨some 16, some (13, false), .un .not (.t 15 [])⟩,
     ⟨some 17, none, .pick (.t 13 []) (.c (.bool true)) (.t 16 [])⟩] [5, 6, 7, 8, 9, 10, 11, 12, 13, 14, 15, 16])
   (.cond (.t 17 [])
    (.pre [.kill [0, 17]] (.seq (.region [⟨some 2, none, .take false (.c (.bool false))⟩] [])
    .ret))
    (.pre [.kill [17]] .skip)))
  (.seq (.seq (.region [⟨some 18, none, .mv false (.t 0 [])⟩,
     ⟨some 19, none, .len (.t 18 [])⟩,
     ⟨some 20, none, .take false (.c (I 0))⟩] [0])
   (.block 0 (.pre [.kill [2, 4, 21, 22, 23, 24, 25, 26, 27]] (.loop (.seq (.region [⟨some 21, none, .bin .lss (.t 20 []) (.t 19 [])⟩] [])
     (.seq (.cond (.t 21 [])
       (.pre [.kill [21]] .skip)
       (.pre [.kill [18, 19, 20, 21]] (.exit 0)))
     (.seq (.block 1 (.seq (.region [⟨some 22, none, .iaddr 1 (.t 18 []) (.t 20 [])⟩,
         ⟨some 23, none, .load none (.t 22 [])⟩,
         ⟨some 4, none, .take false (.t 23 [])⟩] [22, 23])
       (.seq (.region [⟨some 24, none, .mv false (.t 4 [])⟩,
         ⟨some 25, none, .call 64 [(.t 24 [])]⟩,
         ⟨some 26, none, .un .not (.t 25 [])⟩] [4, 24, 25])
       (.cond (.t 26 [])
        (.pre [.kill [18, 19, 20, 26]] (.seq (.region [⟨some 2, none, .take false (.c (.bool false))⟩] [])
        .ret))
        (.pre [.kill [26]] .skip)))))
     (.region [⟨some 27, none, .bin .add (.t 20 []) (.c (I 1))⟩,
      ⟨some 20, none, .mv false (.t 27 [])⟩] [27]))))))))
  (.seq (.region [⟨some 2, none, .take false (.c (.bool true))⟩] [])
  .ret))))),
  [(2, none)], [(false, .deep)]⟩

def a_impl_sameStrings : AFunc := ⟨[false, false], 26,
  (.pre [.kill [2, 3, 4, 5, 6, 7, 8, 9, 10, 11, 12, 13, 14, 15, 16, 17, 18, 19, 20, 21, 22, 23, 24, 25]] (.seq (.region [⟨some 4, none, .take false (.c (.bool false))⟩] [4])
  (.seq (.seq (.region [⟨some 6, none, .mv false (.t 0 [])⟩,
     ⟨some 7, none, .len (.t 6 [])⟩,
     ⟨some 8, none, .mv false (.t 1 [])⟩,
     ⟨some 9, none, .len (.t 8 [])⟩,
     ⟨some 10, none, .bin .neq (.t 7 []) (.t 9 [])⟩] [6, 7, 8, 9])
   (.cond (.t 10 [])
    (.pre [.kill [0, 1, 10]] (.seq (.region [⟨some 4, none, .take false (.c (.bool false))⟩] [])
    .ret))
    (.pre [.kill [10]] .skip)))
  (.seq (.seq (.region [⟨some 11, none, .mv false (.t 0 [])⟩,
     ⟨some 12, none, .len (.t 11 [])⟩,
     ⟨some 13, none, .take false (.c (I 0))⟩] [11])
   (.block 0 (.pre [.kill [4, 5, 14, 15, 16, 17, 18, 19, 20, 21, 22, 23, 24, 25]] (.loop (.seq (.region [⟨some 14, none, .bin .lss (.t 13 []) (.t 12 [])⟩] [])
     (.seq (.cond (.t 14 [])
       (.pre [.kill [14]] .skip)
       (.pre [.kill [0, 1, 12, 13, 14]] (.exit 0)))
     (.seq (.block 1 (.seq (.region [⟨some 15, none, .mv false (.t 13 [])⟩,
         ⟨some 5, none, .take false (.t 15 [])⟩] [15])
       (.seq (.region [⟨some 16, none, .mv false (.t 0 [])⟩,
         ⟨some 17, none, .mv false (.t 5 [])⟩,
         ⟨some 18, none, .iaddr 1 (.t 16 []) (.t 17 [])⟩,
         ⟨some 19, none, .load none (.t 18 [])⟩,
         ⟨some 20, none, .mv false (.t 1 [])⟩,
         ⟨some 21, none, .mv false (.t 5 [])⟩,
         ⟨some 22, none, .iaddr 1 (.t 20 []) (.t 21 [])⟩,
         ⟨some 23, none, .load none (.t 22 [])⟩,
         ⟨some 24, none, .bin .neq (.t 19 []) (.t 23 [])⟩] [5, 16, 17, 18, 19, 20, 21, 22, 23])
       (.cond (.t 24 [])
        (.pre [.kill [0, 1, 12, 13, 24]] (.seq (.region [⟨some 4, none, .take false (.c (.bool false))⟩] [])
        .ret))
        (.pre [.kill [24]] .skip)))))
     (.region [⟨some 25, none, .bin .add (.t 13 []) (.c (I 1))⟩,
      ⟨some 13, none, .mv false (.t 25 [])⟩] [25]))))))))
  (.seq (.region [⟨some 4, none, .take false (.c (.bool true))⟩] [])
  .ret))))),
  [(4, none)], [(false, .deep)]⟩

def a_impl_sameValues : AFunc := ⟨[false, false], 27,
  (.pre [.kill [2, 3, 4, 5, 6, 7, 8, 9, 10, 11, 12, 13, 14, 15, 16, 17, 18, 19, 20, 21, 22, 23, 24, 25, 26]] (.seq (.region [⟨some 4, none, .take false (.c (.bool false))⟩] [4])
  (.seq (.seq (.region [⟨some 6, none, .mv false (.t 0 [])⟩,
     ⟨some 7, none, .len (.t 6 [])⟩,
     ⟨some 8, none, .mv false (.t 1 [])⟩,
     ⟨some 9, none, .len (.t 8 [])⟩,
     ⟨some 10, none, .bin .neq (.t 7 []) (.t 9 [])⟩] [6, 7, 8, 9])
   (.cond (.t 10 [])
    (.pre [.kill [0, 1, 10]] (.seq (.region [⟨some 4, none, .take false (.c (.bool false))⟩] [])
    .ret))
    (.pre [.kill [10]] .skip)))
  (.seq (.seq (.region [⟨some 11, none, .mv false (.t 0 [])⟩,
     ⟨some 12, none, .len (.t 11 [])⟩,
     ⟨some 13, none, .take false (.c (I 0))⟩] [11])
   (.block 0 (.pre [.kill [4, 5, 14, 15, 16, 17, 18, 19, 20, 21, 22, 23, 24, 25, 26]] (.loop (.seq (.region [⟨some 14, none, .bin .lss (.t 13 []) (.t 12 [])⟩] [])
     (.seq (.cond (.t 14 [])
       (.pre [.kill [14]] .skip)
       (.pre [.kill [0, 1, 12, 13, 14]] (.exit 0)))
     (.seq (.block 1 (.seq (.region [⟨some 15, none, .mv false (.t 13 [])⟩,
         ⟨some 5, none, .take false (.t 15 [])⟩] [15])
       (.seq (.region [⟨some 16, none, .mv false (.t 0 [])⟩,
         ⟨some 17, none, .mv false (.t 5 [])⟩,
         ⟨some 18, none, .iaddr 5 (.t 16 []) (.t 17 [])⟩,
         ⟨some 19, none, .load (some 5) (.t 18 [])⟩,
         ⟨some 20, none, .mv false (.t 1 [])⟩,
         ⟨some 21, none, .mv false (.t 5 [])⟩,
         ⟨some 22, none, .iaddr 5 (.t 20 []) (.t 21 [])⟩,
         ⟨some 23, none, .load (some 5) (.t 22 [])⟩,
         ⟨some 24, none, .call 178 [(.t 19 []), (.t 23 [])]⟩,
         ⟨some 25, none, .un .not (.t 24 [])⟩] [5, 16, 17, 18, 19, 20, 21, 22, 23, 24])
       (.cond (.t 25 [])
        (.pre [.kill [0, 1, 12, 13, 25]] (.seq (.region [⟨some 4, none, .take false (.c (.bool false))⟩] [])
        .ret))
        (.pre [.kill [25]] .skip)))))
     (.region [⟨some 26, none, .bin .add (.t 13 []) (.c (I 1))⟩,
      ⟨some 13, none, .mv false (.t 26 [])⟩] [26]))))))))
  (.seq (.region [⟨some 4, none, .take false (.c (.bool true))⟩] [])
  .ret))))),
  [(4, none)], [(false, .deep)]⟩

def a_impl_SizeOfValue : AFunc := ⟨[true], 19,
  (.pre [.kill [1, 2, 3, 4, 5, 6, 7, 8, 9, 10, 11, 12, 13, 14, 15, 16, 17, 18]] (.seq (.region [⟨some 1, none, .box false (.t 0 [])⟩,
    ⟨some 2, none, .take false (.c (I 0))⟩] [0, 2])
  (.seq (.region [⟨some 3, none, .take false (.c (I 1))⟩] [])
  (.seq (.seq (.region [⟨some 6, none, .faddr 4 (.t 1 [])⟩,
     ⟨some 7, none, .load none (.t 6 [1])⟩,
     ⟨some 8, none, .len (.t 7 [])⟩,
     ⟨some 9, none, .take false (.c (I 0))⟩] [1])
   (.block 0 (.pre [.kill [5, 10, 11, 12, 13, 14, 15, 16, 17]] (.loop (.seq (.region [⟨some 10, none, .bin .lss (.t 9 []) (.t 8 [])⟩] [])
     (.seq (.cond (.t 10 [])
       (.pre [.kill [10]] .skip)
       (.pre [.kill [7, 8, 9, 10]] (.exit 0)))
     (.seq (.block 1 (.seq (.region [⟨some 11, none, .iaddr 5 (.t 7 []) (.t 9 [])⟩,
         ⟨some 12, none, .load (some 5) (.t 11 [])⟩,
         ⟨some 5, none, .alloc false [I0, I0, S0, (Z 1), (Z 5)] [.deep, .deep, .deep, .deep, .deep]⟩,
         ⟨none, none, .store 5 (.t 5 [5]) (.t 12 [])⟩] [11, 12])
       (.region [⟨some 13, none, .mv false (.t 3 [])⟩,
        ⟨some 14, none, .load (some 5) (.t 5 [5])⟩,
        ⟨some 15, none, .call 74 [(.t 14 [])]⟩,
        ⟨some 16, none, .bin .add (.t 13 []) (.t 15 [])⟩,
        ⟨some 3, none, .take false (.t 16 [])⟩] [5, 13, 14, 15, 16])))
     (.region [⟨some 17, none, .bin .add (.t 9 []) (.c (I 1))⟩,
      ⟨some 9, none, .mv false (.t 17 [])⟩] [17]))))))))
  (.seq (.region [⟨some 18, none, .mv false (.t 3 [])⟩,
    ⟨some 2, none, .take false (.t 18 [])⟩] [3, 18])
  .ret))))),
  [(2, none)], [(false, .deep)]⟩

def a_impl_valueFormed : AFunc := ⟨[true], 128,
  (.pre [.kill [1, 2, 3, 4, 5, 6, 7, 8, 9, 10, 11, 12, 13, 14, 15, 16, 17, 18, 19, 20, 21, 22, 23, 24, 25, 26, 27, 28, 29, 30, 31, 32, 33, 34, 35, 36, 37, 38, 39, 40, 41, 42, 43, 44, 45, 46, 47, 48, 49, 50, 51, 52, 53, 54, 55, 56, 57, 58, 59, 60, 61, 62, 63, 64, 65, 66, 67, 68, 69, 70, 71, 72, 73, 74, 75, 76, 77, 78, 79, 80, 81, 82, 83, 84, 85, 86, 87, 88, 89, 90, 91, 92, 93, 94, 95, 96, 97, 98, 99, 100, 101, 102, 103, 104, 105, 106, 107, 108, 109, 110, 111, 112, 113, 114, 115, 116, 117, 118, 119, 120, 121, 122, 123, 124, 125, 126, 127]] (.seq (.region [⟨some 1, none, .box false (.t 0 [])⟩,
    ⟨some 2, none, .take false (.c (.bool false))⟩] [0, 2])
  (.seq (.region [⟨some 3, none, .take false (.c (.bool false))⟩] [])
  (.seq (.seq (.region [⟨some 6, none, .faddr 0 (.t 1 [])⟩,
     ⟨some 7, none, .load none (.t 6 [1])⟩] [6])
   (.block 0 (.seq (.region [⟨some 9, none, .bin .eql (.t 7 []) (.c (I 1))⟩,
      ⟨some 8, none, .take false (.t 9 [])⟩] [9])
    (.cond (.t 8 [])
     (.pre [.kill [3, 7, 8]] (.region [⟨some 10, none, .faddr 2 (.t 1 [])⟩,
      ⟨some 11, none, .load none (.t 10 [1])⟩,
      ⟨some 12, none, .bin .eql (.t 11 []) (.c (.str ⟨#[]⟩))⟩,
      ⟨some 13, none, .mv false (.t 12 [])⟩,
      ⟨some 14, some (13, true), .faddr 3 (.t 1 [])⟩,
      ⟨some 15, some (13, true), .load none (.t 14 [1])⟩,
      ⟨some 16, some (13, true), .len (.t 15 [])⟩,
      ⟨some 17, some (13, true), .bin .eql (.t 16 []) (.c (I 0))⟩,
      ⟨some 18, none, .pick (.t 13 []) (.t 17 []) (.c (.bool false))⟩,
      ⟨some 19, none, .mv false (.t 18 [])⟩,
      ⟨some 20, some (19, true), .faddr 4 (.t 1 [])⟩,
      ⟨some 21, some (19, true), .load none (.t 20 [1])⟩,
      ⟨some 22, some (19, true), .len (.t 21 [])⟩,
      ⟨some 23, some (19, true), .bin .eql (.t 22 []) (.c (I 0))⟩,
      ⟨some 24, none, .pick (.t 19 []) (.t 23 []) (.c (.bool false))⟩,
      ⟨some 3, none, .take false (.t 24 [])⟩] [10, 11, 12, 13, 14, 15, 16, 17, 18, 19, 20, 21, 22, 23, 24]))
     (.pre [.kill [8]] (.seq (.region [⟨some 26, none, .bin .eql (.t 7 []) (.c (I 2))⟩,
       ⟨some 25, none, .take false (.t 26 [])⟩] [26])
     (.cond (.t 25 [])
      (.pre [.kill [3, 7, 25]] (.region [⟨some 27, none, .faddr 1 (.t 1 [])⟩,
       ⟨some 28, none, .load none (.t 27 [1])⟩,
       ⟨some 29, none, .bin .eql (.t 28 []) (.c (I 0))⟩,
       ⟨some 30, none, .mv false (.t 29 [])⟩,
       ⟨some 31, some (30, false), .faddr 1 (.t 1 [])⟩,
       ⟨some 32, some (30, false), .load none (.t 31 [1])⟩,
       ⟨some 33, some (30, false), .bin .eql (.t 32 []) (.c (I 1))⟩,
       ⟨some 34, none, .pick (.t 30 []) (.c (.bool true)) (.t 33 [])⟩,
       ⟨some 35, none, .mv false (.t 34 [])⟩,
       ⟨some 36, some (35, true), .faddr 2 (.t 1 [])⟩,
       ⟨some 37, some (35, true), .load none (.t 36 [1])⟩,
       ⟨some 38, some (35, true), .bin .eql (.t 37 []) (.c (.str ⟨#[]⟩))⟩,
       ⟨some 39, none, .pick (.t 35 []) (.t 38 []) (.c (.bool false))⟩,
       ⟨some 40, none, .mv false (.t 39 [])⟩,
       ⟨some 41, some (40, true), .faddr 3 (.t 1 [])⟩,
       ⟨some 42, some (40, true), .load none (.t 41 [1])⟩,
       ⟨some 43, some (40, true), .len (.t 42 [])⟩,
       ⟨some 44, some (40, true), .bin .eql (.t 43 []) (.c (I 0))⟩,
       ⟨some 45, none, .pick (.t 40 []) (.t 44 []) (.c (.bool false))⟩,
       ⟨some 46, none, .mv false (.t 45 [])⟩,
       ⟨some 47, some (46, true), .faddr 4 (.t 1 [])⟩,
       ⟨some 48, some (46, true), .load none (.t 47 [1])⟩,
       ⟨some 49, some (46, true), .len (.t 48 [])⟩,
       ⟨some 50, some (46, true), .bin .eql (.t 49 []) (.c (I 0))⟩,
       ⟨some 51, none, .pick (.t 46 []) (.t 50 []) (.c (.bool false))⟩,
       ⟨some 3, none, .take false (.t 51 [])⟩] [27, 28, 29, 30, 31, 32, 33, 34, 35, 36, 37, 38, 39, 40, 41, 42, 43, 44, 45, 46, 47, 48, 49, 50, 51]))
      (.pre [.kill [25]] (.seq (.region [⟨some 53, none, .bin .eql (.t 7 []) (.c (I 3))⟩,
        ⟨some 52, none, .take false (.t 53 [])⟩] [53])
      (.cond (.t 52 [])
       (.pre [.kill [3, 7, 52]] (.region [⟨some 54, none, .faddr 1 (.t 1 [])⟩,
        ⟨some 55, none, .load none (.t 54 [1])⟩,
        ⟨some 56, none, .bin .eql (.t 55 []) (.c (I 0))⟩,
        ⟨some 57, none, .mv false (.t 56 [])⟩,
        ⟨some 58, some (57, true), .faddr 2 (.t 1 [])⟩,
        ⟨some 59, some (57, true), .load none (.t 58 [1])⟩,
        ⟨some 60, some (57, true), .bin .eql (.t 59 []) (.c (.str ⟨#[]⟩))⟩,
        ⟨some 61, none, .pick (.t 57 []) (.t 60 []) (.c (.bool false))⟩,
        ⟨some 62, none, .mv false (.t 61 [])⟩,
        ⟨some 63, some (62, true), .faddr 3 (.t 1 [])⟩,
        ⟨some 64, some (62, true), .load none (.t 63 [1])⟩,
        ⟨some 65, some (62, true), .len (.t 64 [])⟩,
        ⟨some 66, some (62, true), .faddr 4 (.t 1 [])⟩,
        ⟨some 67, some (62, true), .load none (.t 66 [1])⟩,
        ⟨some 68, some (62, true), .len (.t 67 [])⟩,
        ⟨some 69, some (62, true), .bin .eql (.t 65 []) (.t 68 [])⟩,
        ⟨some 70, none, .pick (.t 62 []) (.t 69 []) (.c (.bool false))⟩,
        ⟨some 71, none, .mv false (.t 70 [])⟩,
        ⟨some 72, some (71, true), .faddr 3 (.t 1 [])⟩,
        ⟨some 73, some (71, true), .load none (.t 72 [1])⟩,
        ⟨some 74, some (71, true), .call 241 [(.t 73 [])]⟩,
        ⟨some 75, none, .pick (.t 71 []) (.t 74 []) (.c (.bool false))⟩,
        ⟨some 3, none, .take false (.t 75 [])⟩] [54, 55, 56, 57, 58, 59, 60, 61, 62, 63, 64, 65, 66, 67, 68, 69, 70, 71, 72, 73, 74, 75]))
       (.pre [.kill [52]] (.seq (.region [⟨some 77, none, .bin .eql (.t 7 []) (.c (I 4))⟩,
         ⟨some 76, none, .take false (.t 77 [])⟩] [77])
       (.cond (.t 76 [])
        (.pre [.kill [3, 7, 76]] (.region [⟨some 78, none, .faddr 1 (.t 1 [])⟩,
         ⟨some 79, none, .load none (.t 78 [1])⟩,
         ⟨some 80, none, .bin .eql (.t 79 []) (.c (I 0))⟩,
         ⟨some 81, none, .mv false (.t 80 [])⟩,
         ⟨some 82, some (81, true), .faddr 2 (.t 1 [])⟩,
         ⟨some 83, some (81, true), .load none (.t 82 [1])⟩,
         ⟨some 84, some (81, true), .call 64 [(.t 83 [])]⟩,
         ⟨some 85, none, .pick (.t 81 []) (.t 84 []) (.c (.bool false))⟩,
         ⟨some 86, none, .mv false (.t 85 [])⟩,
         ⟨some 87, some (86, true), .faddr 3 (.t 1 [])⟩,
         ⟨some 88, some (86, true), .load none (.t 87 [1])⟩,
         ⟨some 89, some (86, true), .len (.t 88 [])⟩,
         ⟨some 90, some (86, true), .bin .eql (.t 89 []) (.c (I 0))⟩,
         ⟨some 91, none, .pick (.t 86 []) (.t 90 []) (.c (.bool false))⟩,
         ⟨some 92, none, .mv false (.t 91 [])⟩,
         ⟨some 93, some (92, true), .faddr 4 (.t 1 [])⟩,
         ⟨some 94, some (92, true), .load none (.t 93 [1])⟩,
         ⟨some 95, some (92, true), .len (.t 94 [])⟩,
         ⟨some 96, some (92, true), .bin .eql (.t 95 []) (.c (I 1))⟩,
         ⟨some 97, none, .pick (.t 92 []) (.t 96 []) (.c (.bool false))⟩,
         ⟨some 3, none, .take false (.t 97 [])⟩] [78, 79, 80, 81, 82, 83, 84, 85, 86, 87, 88, 89, 90, 91, 92, 93, 94, 95, 96, 97]))
        (.pre [.kill [76]] (.seq (.region [⟨some 99, none, .bin .eql (.t 7 []) (.c (I 5))⟩,
          ⟨some 98, none, .take false (.t 99 [])⟩] [7, 99])
        (.cond (.t 98 [])
         (.pre [.kill [3, 98]] (.region [⟨some 100, none, .faddr 1 (.t 1 [])⟩,
          ⟨some 101, none, .load none (.t 100 [1])⟩,
          ⟨some 102, none, .bin .eql (.t 101 []) (.c (I 0))⟩,
          ⟨some 103, none, .mv false (.t 102 [])⟩,
          ⟨some 104, some (103, true), .faddr 2 (.t 1 [])⟩,
          ⟨some 105, some (103, true), .load none (.t 104 [1])⟩,
          ⟨some 106, some (103, true), .bin .eql (.t 105 []) (.c (.str ⟨#[]⟩))⟩,
          ⟨some 107, none, .pick (.t 103 []) (.t 106 []) (.c (.bool false))⟩,
          ⟨some 108, none, .mv false (.t 107 [])⟩,
          ⟨some 109, some (108, true), .faddr 3 (.t 1 [])⟩,
          ⟨some 110, some (108, true), .load none (.t 109 [1])⟩,
          ⟨some 111, some (108, true), .len (.t 110 [])⟩,
          ⟨some 112, some (108, true), .bin .eql (.t 111 []) (.c (I 0))⟩,
          ⟨some 113, none, .pick (.t 108 []) (.t 112 []) (.c (.bool false))⟩,
          ⟨some 3, none, .take false (.t 113 [])⟩] [100, 101, 102, 103, 104, 105, 106, 107, 108, 109, 110, 111, 112, 113]))
         (.pre [.kill [98]] .skip)))))))))))))))))
  (.seq (.seq (.region [⟨some 114, none, .faddr 4 (.t 1 [])⟩,
     ⟨some 115, none, .load none (.t 114 [1])⟩,
     ⟨some 116, none, .len (.t 115 [])⟩,
     ⟨some 117, none, .take false (.c (I 0))⟩] [1])
   (.block 1 (.pre [.kill [5, 118, 119, 120, 121, 122, 123, 124, 125, 126]] (.loop (.seq (.region [⟨some 118, none, .bin .lss (.t 117 []) (.t 116 [])⟩] [])
     (.seq (.cond (.t 118 [])
       (.pre [.kill [118]] .skip)
       (.pre [.kill [115, 116, 117, 118]] (.exit 1)))
     (.seq (.block 2 (.seq (.region [⟨some 119, none, .iaddr 5 (.t 115 []) (.t 117 [])⟩,
         ⟨some 120, none, .load (some 5) (.t 119 [])⟩,
         ⟨some 5, none, .alloc false [I0, I0, S0, (Z 1), (Z 5)] [.deep, .deep, .deep, .deep, .deep]⟩,
         ⟨none, none, .store 5 (.t 5 [5]) (.t 120 [])⟩] [119, 120])
       (.region [⟨some 121, none, .mv false (.t 3 [])⟩,
        ⟨some 122, none, .mv false (.t 121 [])⟩,
        ⟨some 123, some (122, true), .load (some 5) (.t 5 [5])⟩,
        ⟨some 124, some (122, true), .call 216 [(.t 123 [])]⟩,
        ⟨some 125, none, .pick (.t 122 []) (.t 124 []) (.c (.bool false))⟩,
        ⟨some 3, none, .take false (.t 125 [])⟩] [5, 121, 122, 123, 124, 125])))
     (.region [⟨some 126, none, .bin .add (.t 117 []) (.c (I 1))⟩,
      ⟨some 117, none, .mv false (.t 126 [])⟩] [126]))))))))
  (.seq (.region [⟨some 127, none, .mv false (.t 3 [])⟩,
    ⟨some 2, none, .take false (.t 127 [])⟩] [3, 127])
  .ret)))))),
  [(2, none)], [(false, .deep)]⟩

def a_impl_IndexOf : AFunc := ⟨[false, false], 19,
  (.pre [.kill [2, 3, 4, 5, 6, 7, 8, 9, 10, 11, 12, 13, 14, 15, 16, 17, 18]] (.seq (.region [⟨some 4, none, .take false (.c (I 0))⟩] [4])
  (.seq (.seq (.region [⟨some 7, none, .mv false (.t 0 [])⟩,
     ⟨some 8, none, .len (.t 7 [])⟩,
     ⟨some 9, none, .take false (.c (I 0))⟩] [0])
   (.block 0 (.pre [.kill [4, 5, 6, 10, 11, 12, 13, 14, 15, 16, 17, 18]] (.loop (.seq (.region [⟨some 10, none, .bin .lss (.t 9 []) (.t 8 [])⟩] [])
     (.seq (.cond (.t 10 [])
       (.pre [.kill [10]] .skip)
       (.pre [.kill [1, 7, 8, 9, 10]] (.exit 0)))
     (.seq (.block 1 (.seq (.region [⟨some 11, none, .mv false (.t 9 [])⟩,
         ⟨some 12, none, .iaddr 1 (.t 7 []) (.t 9 [])⟩,
         ⟨some 13, none, .load none (.t 12 [])⟩,
         ⟨some 5, none, .take false (.t 11 [])⟩,
         ⟨some 6, none, .take false (.t 13 [])⟩] [11, 12, 13])
       (.seq (.region [⟨some 14, none, .mv false (.t 6 [])⟩,
         ⟨some 15, none, .mv false (.t 1 [])⟩,
         ⟨some 16, none, .bin .eql (.t 14 []) (.t 15 [])⟩] [6, 14, 15])
       (.cond (.t 16 [])
        (.pre [.kill [1, 7, 8, 9, 16]] (.seq (.region [⟨some 17, none, .mv false (.t 5 [])⟩,
          ⟨some 4, none, .take false (.t 17 [])⟩] [5, 17])
        .ret))
        (.pre [.kill [5, 16]] .skip)))))
     (.region [⟨some 18, none, .bin .add (.t 9 []) (.c (I 1))⟩,
      ⟨some 9, none, .mv false (.t 18 [])⟩] [18]))))))))
  (.seq (.region [⟨some 4, none, .take false (.c (I (-1)))⟩] [])
  .ret)))),
  [(4, none)], [(false, .deep)]⟩

def a_spec_IsName : AFunc := ⟨[false], 42,
  (.pre [.kill [1, 2, 3, 4, 5, 6, 7, 8, 9, 10, 11, 12, 13, 14, 15, 16, 17, 18, 19, 20, 21, 22, 23, 24, 25, 26, 27, 28, 29, 30, 31, 32, 33, 34, 35, 36, 37, 38, 39, 40, 41]] (.seq (.region [⟨some 2, none, .take false (.c (.bool false))⟩] [2])
  (.seq (.seq (.region [⟨some 3, none, .take false (.c (I 0))⟩] [])
   (.block 0 (.pre [.kill [2, 4, 5, 6, 7, 8, 9, 10, 11, 12, 13, 14, 15, 16, 17, 18, 19, 20, 21, 22, 23, 24, 25, 26, 27, 28, 29, 30, 31, 32, 33, 34, 35, 36, 37, 38]] (.loop (.seq (.seq (.region [⟨some 5, none, .mv false (.t 3 [])⟩,
        ⟨some 6, none, .mv false (.t 0 [])⟩,
        ⟨some 7, none, .lenS (.t 6 [])⟩,
        ⟨some 8, none, .bin .lss (.t 5 []) (.t 7 [])⟩] [5, 6, 7])
      (.cond (.t 8 [])
       (.pre [.kill [8]] .skip)
       (.pre [.kill [3, 8]] (.exit 0))))
     (.seq (.block 1 (.seq (.region [⟨some 11, none, .mv false (.t 0 [])⟩,
         ⟨some 12, none, .mv false (.t 3 [])⟩,
         ⟨some 13, none, .index (.t 11 []) (.t 12 [])⟩,
         ⟨some 14, none, .bin .geq (.t 13 []) (.c (.int .u8 97))⟩,
         ⟨some 15, none, .mv false (.t 14 [])⟩,
         ⟨some 16, some (15, true), .mv false (.t 0 [])⟩,
         ⟨some 17, some (15, true), .mv false (.t 3 [])⟩,
         ⟨some 18, some (15, true), .index (.t 16 []) (.t 17 [])⟩,
         ⟨some 19, some (15, true), .bin .leq (.t 18 []) (.c (.int .u8 122))⟩,
         ⟨some 20, none, .pick (.t 15 []) (.t 19 []) (.c (.bool false))⟩,
         ⟨some 4, none, .take false (.t 20 [])⟩] [11, 12, 13, 14, 15, 16, 17, 18, 19, 20])
       (.seq (.region [⟨some 21, none, .mv false (.t 4 [])⟩,
         ⟨some 22, none, .un .not (.t 21 [])⟩,
         ⟨some 23, none, .mv false (.t 22 [])⟩,
         ⟨some 24, some (23, true), .mv false (.t 3 [])⟩,
         ⟨some 25, some (23, true), .bin .eql (.t 24 []) (.c (I 0))⟩,
         ⟨some 26, some (23, true), .mv false (.t 25 [])⟩,
         ⟨some 27, some (26, false), .mv false (.t 0 [])⟩,
         ⟨some 28, some (26, false), .mv false (.t 3 [])⟩,
         ⟨some 29, some (26, false), .index (.t 27 []) (.t 28 [])⟩,
         ⟨some 30, some (26, false), .bin .lss (.t 29 []) (.c (.int .u8 48))⟩,
         ⟨some 31, some (23, true), .pick (.t 26 []) (.c (.bool true)) (.t 30 [])⟩,
         ⟨some 32, some (23, true), .mv false (.t 31 [])⟩,
         ⟨some 33, some (32, false), .mv false (.t 0 [])⟩,
         ⟨some 34, some (32, false), .mv false (.t 3 [])⟩,
         ⟨some 35, some (32, false), .index (.t 33 []) (.t 34 [])⟩,
         ⟨some 36, some (32, false), .bin .gtr (.t 35 []) (.c (.int .u8 57))⟩,
         ⟨some 37, some (23, true), .pick (.t 32 []) (.c (.bool true)) (.t 36 [])⟩,
         ⟨some 38, none, .pick (.t 23 []) (.t 37 []) (.c (.bool false))⟩] [4, 21, 22, 23, 24, 25, 26, 27, 28, 29, 30, 31, 32, 33, 34, 35, 36, 37])
       (.cond (.t 38 [])
        (.pre [.kill [0, 3, 38]] (.seq (.region [⟨some 2, none, .take false (.c (.bool false))⟩] [])
        .ret))
        (.pre [.kill [38]] .skip)))))
     (.region [⟨some 9, none, .mv false (.t 3 [])⟩,
      ⟨some 10, none, .bin .add (.t 9 []) (.c (I 1))⟩,
      ⟨some 3, none, .take false (.t 10 [])⟩] [9, 10])))))))
  (.seq (.region [⟨some 39, none, .mv false (.t 0 [])⟩,
    ⟨some 40, none, .lenS (.t 39 [])⟩,
    ⟨some 41, none, .call 63 [(.t 40 []), (.c (I 1)), (.c (I 4))]⟩,
    ⟨some 2, none, .take false (.t 41 [])⟩] [0, 39, 40, 41])
  .ret)))),
  [(2, none)], [(false, .deep)]⟩

def a_spec_AreAscending : AFunc := ⟨[false], 20,
  (.pre [.kill [1, 2, 3, 4, 5, 6, 7, 8, 9, 10, 11, 12, 13, 14, 15, 16, 17, 18, 19]] (.seq (.region [⟨some 2, none, .take false (.c (.bool false))⟩] [2])
  (.seq (.seq (.region [⟨some 3, none, .take false (.c (I 1))⟩] [])
   (.block 0 (.pre [.kill [2, 4, 5, 6, 7, 8, 9, 10, 11, 12, 13, 14, 15, 16, 17, 18, 19]] (.loop (.seq (.seq (.region [⟨some 4, none, .mv false (.t 3 [])⟩,
        ⟨some 5, none, .mv false (.t 0 [])⟩,
        ⟨some 6, none, .len (.t 5 [])⟩,
        ⟨some 7, none, .bin .lss (.t 4 []) (.t 6 [])⟩] [4, 5, 6])
      (.cond (.t 7 [])
       (.pre [.kill [7]] .skip)
       (.pre [.kill [0, 3, 7]] (.exit 0))))
     (.seq (.block 1 (.seq (.region [⟨some 10, none, .mv false (.t 0 [])⟩,
         ⟨some 11, none, .mv false (.t 3 [])⟩,
         ⟨some 12, none, .bin .sub (.t 11 []) (.c (I 1))⟩,
         ⟨some 13, none, .iaddr 1 (.t 10 []) (.t 12 [])⟩,
         ⟨some 14, none, .load none (.t 13 [])⟩,
         ⟨some 15, none, .mv false (.t 0 [])⟩,
         ⟨some 16, none, .mv false (.t 3 [])⟩,
         ⟨some 17, none, .iaddr 1 (.t 15 []) (.t 16 [])⟩,
         ⟨some 18, none, .load none (.t 17 [])⟩,
         ⟨some 19, none, .bin .geq (.t 14 []) (.t 18 [])⟩] [10, 11, 12, 13, 14, 15, 16, 17, 18])
       (.cond (.t 19 [])
        (.pre [.kill [0, 3, 19]] (.seq (.region [⟨some 2, none, .take false (.c (.bool false))⟩] [])
        .ret))
        (.pre [.kill [19]] .skip))))
     (.region [⟨some 8, none, .mv false (.t 3 [])⟩,
      ⟨some 9, none, .bin .add (.t 8 []) (.c (I 1))⟩,
      ⟨some 3, none, .take false (.t 9 [])⟩] [8, 9])))))))
  (.seq (.region [⟨some 2, none, .take false (.c (.bool true))⟩] [])
  .ret)))),
  [(2, none)], [(false, .deep)]⟩

def a_impl_AreAscending : AFunc := ⟨[false], 20,
  (.pre [.kill [1, 2, 3, 4, 5, 6, 7, 8, 9, 10, 11, 12, 13, 14, 15, 16, 17, 18, 19]] (.seq (.region [⟨some 2, none, .take false (.c (.bool false))⟩] [2])
  (.seq (.seq (.region [⟨some 3, none, .take false (.c (I 1))⟩] [])
   (.block 0 (.pre [.kill [2, 4, 5, 6, 7, 8, 9, 10, 11, 12, 13, 14, 15, 16, 17, 18, 19]] (.loop (.seq (.seq (.region [⟨some 4, none, .mv false (.t 3 [])⟩,
        ⟨some 5, none, .mv false (.t 0 [])⟩,
        ⟨some 6, none, .len (.t 5 [])⟩,
        ⟨some 7, none, .bin .lss (.t 4 []) (.t 6 [])⟩] [4, 5, 6])
      (.cond (.t 7 [])
       (.pre [.kill [7]] .skip)
       (.pre [.kill [0, 3, 7]] (.exit 0))))
     (.seq (.block 1 (.seq (.region [⟨some 10, none, .mv false (.t 0 [])⟩,
         ⟨some 11, none, .mv false (.t 3 [])⟩,
         ⟨some 12, none, .bin .sub (.t 11 []) (.c (I 1))⟩,
         ⟨some 13, none, .iaddr 1 (.t 10 []) (.t 12 [])⟩,
         ⟨some 14, none, .load none (.t 13 [])⟩,
         ⟨some 15, none, .mv false (.t 0 [])⟩,
         ⟨some 16, none, .mv false (.t 3 [])⟩,
         ⟨some 17, none, .iaddr 1 (.t 15 []) (.t 16 [])⟩,
         ⟨some 18, none, .load none (.t 17 [])⟩,
         ⟨some 19, none, .bin .geq (.t 14 []) (.t 18 [])⟩] [10, 11, 12, 13, 14, 15, 16, 17, 18])
       (.cond (.t 19 [])
        (.pre [.kill [0, 3, 19]] (.seq (.region [⟨some 2, none, .take false (.c (.bool false))⟩] [])
        .ret))
        (.pre [.kill [19]] .skip))))
     (.region [⟨some 8, none, .mv false (.t 3 [])⟩,
      ⟨some 9, none, .bin .add (.t 8 []) (.c (I 1))⟩,
      ⟨some 3, none, .take false (.t 9 [])⟩] [8, 9])))))))
  (.seq (.region [⟨some 2, none, .take false (.c (.bool true))⟩] [])
  .ret)))),
  [(2, none)], [(false, .deep)]⟩

def a_impl_IsName : AFunc := ⟨[false], 25,
  (.pre [.kill [1, 2, 3, 4, 5, 6, 7, 8, 9, 10, 11, 12, 13, 14, 15, 16, 17, 18, 19, 20, 21, 22, 23, 24]] (.seq (.region [⟨some 2, none, .take false (.c (.bool false))⟩] [2])
  (.seq (.seq (.region [⟨some 4, none, .mv false (.t 0 [])⟩,
     ⟨some 5, none, .lenS (.t 4 [])⟩,
     ⟨some 6, none, .bin .eql (.t 5 []) (.c (I 0))⟩,
     ⟨some 7, none, .mv false (.t 6 [])⟩,
     ⟨some 8, some (7, false), .mv false (.t 0 [])⟩,
     ⟨some 9, some (7, false), .lenS (.t 8 [])⟩,
     ⟨some 10, some (7, false), .bin .gtr (.t 9 []) (.c (I 4))⟩,
     ⟨some 11, none, .pick (.t 7 []) (.c (.bool true)) (.t 10 [])⟩] [4, 5, 6, 7, 8, 9, 10])
   (.cond (.t 11 [])
    (.pre [.kill [0, 11]] (.seq (.region [⟨some 2, none, .take false (.c (.bool false))⟩] [])
    .ret))
    (.pre [.kill [11]] .skip)))
  (.seq (.seq (.region [⟨some 12, none, .mv false (.t 0 [])⟩,
     ⟨some 13, none, .lenS (.t 12 [])⟩,
     ⟨some 14, none, .take false (.c (I 0))⟩] [12])
   (.block 0 (.pre [.kill [2, 3, 15, 16, 17, 18, 19, 20, 21, 22, 23, 24]] (.loop (.seq (.region [⟨some 15, none, .bin .lss (.t 14 []) (.t 13 [])⟩] [])
     (.seq (.cond (.t 15 [])
       (.pre [.kill [15]] .skip)
       (.pre [.kill [0, 13, 14, 15]] (.exit 0)))
     (.seq (.block 1 (.seq (.region [⟨some 16, none, .mv false (.t 14 [])⟩,
         ⟨some 3, none, .take false (.t 16 [])⟩] [16])
       (.seq (.region [⟨some 17, none, .mv false (.t 0 [])⟩,
         ⟨some 18, none, .mv false (.t 3 [])⟩,
         ⟨some 19, none, .index (.t 17 []) (.t 18 [])⟩,
         ⟨some 20, none, .mv false (.t 3 [])⟩,
         ⟨some 21, none, .bin .eql (.t 20 []) (.c (I 0))⟩,
         ⟨some 22, none, .call 95 [(.t 19 []), (.t 21 [])]⟩,
         ⟨some 23, none, .un .not (.t 22 [])⟩] [3, 17, 18, 19, 20, 21, 22])
       (.cond (.t 23 [])
        (.pre [.kill [0, 13, 14, 23]] (.seq (.region [⟨some 2, none, .take false (.c (.bool false))⟩] [])
        .ret))
        (.pre [.kill [23]] .skip)))))
     (.region [⟨some 24, none, .bin .add (.t 14 []) (.c (I 1))⟩,
      ⟨some 14, none, .mv false (.t 24 [])⟩] [24]))))))))
  (.seq (.region [⟨some 2, none, .take false (.c (.bool true))⟩] [])
  .ret))))),
  [(2, none)], [(false, .deep)]⟩

def a_impl_nameByte : AFunc := ⟨[false, false], 23,
  (.pre [.kill [2, 3, 4, 5, 6, 7, 8, 9, 10, 11, 12, 13, 14, 15, 16, 17, 18, 19, 20, 21, 22]] (.seq (.region [⟨some 4, none, .take false (.c (.bool false))⟩] [4])
  (.seq (.region [⟨some 5, none, .mv false (.t 0 [])⟩,
    ⟨some 6, none, .bin .geq (.t 5 []) (.c (.int .u8 97))⟩,
    ⟨some 7, none, .mv false (.t 6 [])⟩,
    ⟨some 8, some (7, true), .mv false (.t 0 [])⟩,
    ⟨some 9, some (7, true), .bin .leq (.t 8 []) (.c (.int .u8 122))⟩,
    ⟨some 10, none, .pick (.t 7 []) (.t 9 []) (.c (.bool false))⟩,
    ⟨some 11, none, .mv false (.t 10 [])⟩,
    ⟨some 12, some (11, false), .mv false (.t 1 [])⟩,
    ⟨some 13, some (11, false), .un .not (.t 12 [])⟩,
    ⟨some 14, some (11, false), .mv false (.t 13 [])⟩,
    ⟨some 15, some (14, true), .mv false (.t 0 [])⟩,
    ⟨some 16, some (14, true), .bin .geq (.t 15 []) (.c (.int .u8 48))⟩,
    ⟨some 17, some (11, false), .pick (.t 14 []) (.t 16 []) (.c (.bool false))⟩,
    ⟨some 18, some (11, false), .mv false (.t 17 [])⟩,
    ⟨some 19, some (18, true), .mv false (.t 0 [])⟩,
    ⟨some 20, some (18, true), .bin .leq (.t 19 []) (.c (.int .u8 57))⟩,
    ⟨some 21, some (11, false), .pick (.t 18 []) (.t 20 []) (.c (.bool false))⟩,
    ⟨some 22, none, .pick (.t 11 []) (.c (.bool true)) (.t 21 [])⟩,
    ⟨some 4, none, .take false (.t 22 [])⟩] [0, 1, 5, 6, 7, 8, 9, 10, 11, 12, 13, 14, 15, 16, 17, 18, 19, 20, 21, 22])
  .ret))),
  [(4, none)], [(false, .deep)]⟩

def tab : Nat → Option AFunc
  | 144 => some a_laws_FnExactIsAction
  | 157 => some a_laws_szType
  | 46 => some a_laws_szAction
  | 159 => some a_laws_toType
  | 48 => some a_laws_toAction
  | 170 => some a_spec_IsAction
  | 171 => some a_impl_IsAction
  | 161 => some a_laws_eqType
  | 50 => some a_laws_eqAction
  | 97 => some a_laws_szStringS
  | 184 => some a_laws_szTypeS
  | 76 => some a_laws_szValue
  | 100 => some a_laws_toStringS
  | 188 => some a_laws_toTypeS
  | 78 => some a_laws_toValue
  | 185 => some a_spec_IsValidType
  | 202 => some a_spec_l14None
  | 203 => some a_spec_HasType
  | 63 => some a_spec_l1In
  | 189 => some a_impl_IsValidType
  | 204 => some a_impl_none
  | 205 => some a_impl_HasType
  | 80 => some a_impl_stepOk
  | 103 => some a_laws_eqStringS
  | 192 => some a_laws_eqTypeS
  | 81 => some a_laws_eqValue
  | 98 => some a_laws_szValueS
  | 101 => some a_laws_toValueS
  | 219 => some a_spec_l3Left
  | 220 => some a_spec_DepthOfType
  | 221 => some a_spec_l3Form
  | 180 => some a_spec_IsValue
  | 237 => some a_spec_l5Has
  | 222 => some a_impl_SizeOfType
  | 223 => some a_impl_DepthOfType
  | 224 => some a_impl_typeFormed
  | 178 => some a_impl_EqualValue
  | 182 => some a_impl_IsValue
  | 238 => some a_impl_ofType
  | 104 => some a_laws_eqValueS
  | 129 => some a_spec_l1Max
  | 240 => some a_spec_l3Labels
  | 212 => some a_spec_l5Left
  | 213 => some a_spec_l5Form
  | 208 => some a_spec_l3Texts
  | 187 => some a_spec_IndexOf
  | 241 => some a_impl_labelsOk
  | 210 => some a_impl_sameStrings
  | 211 => some a_impl_sameValues
  | 74 => some a_impl_SizeOfValue
  | 216 => some a_impl_valueFormed
  | 225 => some a_impl_IndexOf
  | 62 => some a_spec_IsName
  | 245 => some a_spec_AreAscending
  | 246 => some a_impl_AreAscending
  | 64 => some a_impl_IsName
  | 95 => some a_impl_nameByte
  | _ => none
def num : Nat → FuncId
  | 144 => 9
  | 157 => 39
  | 46 => 40
  | 159 => 42
  | 48 => 43
  | 170 => 41
  | 171 => 44
  | 161 => 45
  | 50 => 46
  | 97 => 78
  | 184 => 79
  | 76 => 47
  | 100 => 84
  | 188 => 85
  | 78 => 49
  | 185 => 80
  | 202 => 81
  | 203 => 82
  | 63 => 83
  | 189 => 86
  | 204 => 87
  | 205 => 88
  | 80 => 89
  | 103 => 90
  | 192 => 91
  | 81 => 51
  | 98 => 92
  | 101 => 94
  | 219 => 118
  | 220 => 119
  | 221 => 120
  | 180 => 114
  | 237 => 121
  | 222 => 122
  | 223 => 123
  | 224 => 124
  | 178 => 74
  | 182 => 116
  | 238 => 125
  | 104 => 96
  | 129 => 159
  | 240 => 160
  | 212 => 154
  | 213 => 155
  | 208 => 109
  | 187 => 161
  | 241 => 162
  | 210 => 111
  | 211 => 112
  | 74 => 62
  | 216 => 157
  | 225 => 163
  | 62 => 99
  | 245 => 185
  | 246 => 186
  | 64 => 100
  | 95 => 141
  | _ => 0
theorem k144 : chkFn Try.prog num 144 a_laws_FnExactIsAction = true := by kernel_rfl
theorem k157 : chkFn Try.prog num 157 a_laws_szType = true := by kernel_rfl
theorem k46 : chkFn Try.prog num 46 a_laws_szAction = true := by kernel_rfl
theorem k159 : chkFn Try.prog num 159 a_laws_toType = true := by kernel_rfl
theorem k48 : chkFn Try.prog num 48 a_laws_toAction = true := by kernel_rfl
theorem k170 : chkFn Try.prog num 170 a_spec_IsAction = true := by kernel_rfl
theorem k171 : chkFn Try.prog num 171 a_impl_IsAction = true := by kernel_rfl
theorem k161 : chkFn Try.prog num 161 a_laws_eqType = true := by kernel_rfl
theorem k50 : chkFn Try.prog num 50 a_laws_eqAction = true := by kernel_rfl
theorem k97 : chkFn Try.prog num 97 a_laws_szStringS = true := by kernel_rfl
theorem k184 : chkFn Try.prog num 184 a_laws_szTypeS = true := by kernel_rfl
theorem k76 : chkFn Try.prog num 76 a_laws_szValue = true := by kernel_rfl
theorem k100 : chkFn Try.prog num 100 a_laws_toStringS = true := by kernel_rfl
theorem k188 : chkFn Try.prog num 188 a_laws_toTypeS = true := by kernel_rfl
theorem k78 : chkFn Try.prog num 78 a_laws_toValue = true := by kernel_rfl
theorem k185 : chkFn Try.prog num 185 a_spec_IsValidType = true := by kernel_rfl
theorem k202 : chkFn Try.prog num 202 a_spec_l14None = true := by kernel_rfl
theorem k203 : chkFn Try.prog num 203 a_spec_HasType = true := by kernel_rfl
theorem k63 : chkFn Try.prog num 63 a_spec_l1In = true := by kernel_rfl
theorem k189 : chkFn Try.prog num 189 a_impl_IsValidType = true := by kernel_rfl
theorem k204 : chkFn Try.prog num 204 a_impl_none = true := by kernel_rfl
theorem k205 : chkFn Try.prog num 205 a_impl_HasType = true := by kernel_rfl
theorem k80 : chkFn Try.prog num 80 a_impl_stepOk = true := by kernel_rfl
theorem k103 : chkFn Try.prog num 103 a_laws_eqStringS = true := by kernel_rfl
theorem k192 : chkFn Try.prog num 192 a_laws_eqTypeS = true := by kernel_rfl
theorem k81 : chkFn Try.prog num 81 a_laws_eqValue = true := by kernel_rfl
theorem k98 : chkFn Try.prog num 98 a_laws_szValueS = true := by kernel_rfl
theorem k101 : chkFn Try.prog num 101 a_laws_toValueS = true := by kernel_rfl
theorem k219 : chkFn Try.prog num 219 a_spec_l3Left = true := by kernel_rfl
theorem k220 : chkFn Try.prog num 220 a_spec_DepthOfType = true := by kernel_rfl
theorem k221 : chkFn Try.prog num 221 a_spec_l3Form = true := by kernel_rfl
theorem k180 : chkFn Try.prog num 180 a_spec_IsValue = true := by kernel_rfl
theorem k237 : chkFn Try.prog num 237 a_spec_l5Has = true := by kernel_rfl
theorem k222 : chkFn Try.prog num 222 a_impl_SizeOfType = true := by kernel_rfl
theorem k223 : chkFn Try.prog num 223 a_impl_DepthOfType = true := by kernel_rfl
theorem k224 : chkFn Try.prog num 224 a_impl_typeFormed = true := by kernel_rfl
theorem k178 : chkFn Try.prog num 178 a_impl_EqualValue = true := by kernel_rfl
theorem k182 : chkFn Try.prog num 182 a_impl_IsValue = true := by kernel_rfl
theorem k238 : chkFn Try.prog num 238 a_impl_ofType = true := by kernel_rfl
theorem k104 : chkFn Try.prog num 104 a_laws_eqValueS = true := by kernel_rfl
theorem k129 : chkFn Try.prog num 129 a_spec_l1Max = true := by kernel_rfl
theorem k240 : chkFn Try.prog num 240 a_spec_l3Labels = true := by kernel_rfl
theorem k212 : chkFn Try.prog num 212 a_spec_l5Left = true := by kernel_rfl
theorem k213 : chkFn Try.prog num 213 a_spec_l5Form = true := by kernel_rfl
theorem k208 : chkFn Try.prog num 208 a_spec_l3Texts = true := by kernel_rfl
theorem k187 : chkFn Try.prog num 187 a_spec_IndexOf = true := by kernel_rfl
theorem k241 : chkFn Try.prog num 241 a_impl_labelsOk = true := by kernel_rfl
theorem k210 : chkFn Try.prog num 210 a_impl_sameStrings = true := by kernel_rfl
theorem k211 : chkFn Try.prog num 211 a_impl_sameValues = true := by kernel_rfl
theorem k74 : chkFn Try.prog num 74 a_impl_SizeOfValue = true := by kernel_rfl
theorem k216 : chkFn Try.prog num 216 a_impl_valueFormed = true := by kernel_rfl
theorem k225 : chkFn Try.prog num 225 a_impl_IndexOf = true := by kernel_rfl
theorem k62 : chkFn Try.prog num 62 a_spec_IsName = true := by kernel_rfl
theorem k245 : chkFn Try.prog num 245 a_spec_AreAscending = true := by kernel_rfl
theorem k246 : chkFn Try.prog num 246 a_impl_AreAscending = true := by kernel_rfl
theorem k64 : chkFn Try.prog num 64 a_impl_IsName = true := by kernel_rfl
theorem k95 : chkFn Try.prog num 95 a_impl_nameByte = true := by kernel_rfl
theorem tabHF : ∀ k fd, tab k = some fd → ∃ fn c, FnOk Try.prog num k fd fn c := by
  intro k fd h
  unfold tab at h
  split at h
  · injection h with h; subst h; exact chkFn_ _ _ k144
  · injection h with h; subst h; exact chkFn_ _ _ k157
  · injection h with h; subst h; exact chkFn_ _ _ k46
  · injection h with h; subst h; exact chkFn_ _ _ k159
  · injection h with h; subst h; exact chkFn_ _ _ k48
  · injection h with h; subst h; exact chkFn_ _ _ k170
  · injection h with h; subst h; exact chkFn_ _ _ k171
  · injection h with h; subst h; exact chkFn_ _ _ k161
  · injection h with h; subst h; exact chkFn_ _ _ k50
  · injection h with h; subst h; exact chkFn_ _ _ k97
  · injection h with h; subst h; exact chkFn_ _ _ k184
  · injection h with h; subst h; exact chkFn_ _ _ k76
  · injection h with h; subst h; exact chkFn_ _ _ k100
  · injection h with h; subst h; exact chkFn_ _ _ k188
  · injection h with h; subst h; exact chkFn_ _ _ k78
  · injection h with h; subst h; exact chkFn_ _ _ k185
  · injection h with h; subst h; exact chkFn_ _ _ k202
  · injection h with h; subst h; exact chkFn_ _ _ k203
  · injection h with h; subst h; exact chkFn_ _ _ k63
  · injection h with h; subst h; exact chkFn_ _ _ k189
  · injection h with h; subst h; exact chkFn_ _ _ k204
  · injection h with h; subst h; exact chkFn_ _ _ k205
  · injection h with h; subst h; exact chkFn_ _ _ k80
  · injection h with h; subst h; exact chkFn_ _ _ k103
  · injection h with h; subst h; exact chkFn_ _ _ k192
  · injection h with h; subst h; exact chkFn_ _ _ k81
  · injection h with h; subst h; exact chkFn_ _ _ k98
  · injection h with h; subst h; exact chkFn_ _ _ k101
  · injection h with h; subst h; exact chkFn_ _ _ k219
  · injection h with h; subst h; exact chkFn_ _ _ k220
  · injection h with h; subst h; exact chkFn_ _ _ k221
  · injection h with h; subst h; exact chkFn_ _ _ k180
  · injection h with h; subst h; exact chkFn_ _ _ k237
  · injection h with h; subst h; exact chkFn_ _ _ k222
  · injection h with h; subst h; exact chkFn_ _ _ k223
  · injection h with h; subst h; exact chkFn_ _ _ k224
  · injection h with h; subst h; exact chkFn_ _ _ k178
  · injection h with h; subst h; exact chkFn_ _ _ k182
  · injection h with h; subst h; exact chkFn_ _ _ k238
  · injection h with h; subst h; exact chkFn_ _ _ k104
  · injection h with h; subst h; exact chkFn_ _ _ k129
  · injection h with h; subst h; exact chkFn_ _ _ k240
  · injection h with h; subst h; exact chkFn_ _ _ k212
  · injection h with h; subst h; exact chkFn_ _ _ k213
  · injection h with h; subst h; exact chkFn_ _ _ k208
  · injection h with h; subst h; exact chkFn_ _ _ k187
  · injection h with h; subst h; exact chkFn_ _ _ k241
  · injection h with h; subst h; exact chkFn_ _ _ k210
  · injection h with h; subst h; exact chkFn_ _ _ k211
  · injection h with h; subst h; exact chkFn_ _ _ k74
  · injection h with h; subst h; exact chkFn_ _ _ k216
  · injection h with h; subst h; exact chkFn_ _ _ k225
  · injection h with h; subst h; exact chkFn_ _ _ k62
  · injection h with h; subst h; exact chkFn_ _ _ k245
  · injection h with h; subst h; exact chkFn_ _ _ k246
  · injection h with h; subst h; exact chkFn_ _ _ k64
  · injection h with h; subst h; exact chkFn_ _ _ k95
  · cases h
end Go.Proofs.Ytkiliooegoldoaa
