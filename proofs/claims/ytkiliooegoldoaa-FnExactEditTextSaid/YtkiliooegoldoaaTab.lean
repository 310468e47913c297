/- The functions of the claim, as abstract code; each is checked against the program. -/
import Derived.Test.YtkiliooegoldoaaE4
import Derived.Test.YtkiliooegoldoaaChecked
set_option maxRecDepth 100000
namespace Go.Proofs.Ytkiliooegoldoaa
open Go

def a_laws_FnExactEditText : AFunc := ⟨[true], 27,
  (.pre [.kill [1, 2, 3, 4, 5, 6, 7, 8, 9, 10, 11, 12, 13, 14, 15, 16, 17, 18, 19, 20, 21, 22, 23, 24, 25, 26]] (.seq (.region [⟨some 1, none, .box false (.t 0 [])⟩,
    ⟨some 2, none, .take false (.c (.bool false))⟩] [0, 2])
  (.seq (.region [⟨some 3, none, .take false (.c (I 1048576))⟩] [])
  (.seq (.region [⟨some 7, none, .load (some 8) (.t 1 [1])⟩,
    ⟨some 8, none, .mv false (.t 3 [])⟩,
    ⟨some 9, none, .call 71 [(.t 7 []), (.t 8 [])]⟩,
    ⟨some 3, none, .take false (.t 9 [])⟩] [7, 8, 9])
  (.seq (.seq (.region [⟨some 10, none, .mv false (.t 3 [])⟩,
     ⟨some 11, none, .bin .lss (.t 10 []) (.c (I 0))⟩] [3, 10])
   (.cond (.t 11 [])
    (.pre [.kill [1, 11]] (.seq (.region [⟨some 2, none, .take false (.c (.bool true))⟩] [])
    .ret))
    (.pre [.kill [11]] .skip)))
  (.seq (.region [⟨some 12, none, .load (some 8) (.t 1 [1])⟩,
    ⟨some 13, none, .call 73 [(.t 12 [])]⟩,
    ⟨some 14, none, .call 168 [(.t 13 [])]⟩,
    ⟨some 4, none, .take false (.t 14 [])⟩] [12, 13, 14])
  (.seq (.region [⟨some 15, none, .load (some 8) (.t 1 [1])⟩,
    ⟨some 16, none, .call 73 [(.t 15 [])]⟩,
    ⟨some 5, none, .alloc false [I0, (Z 3), I0, I0, S0, (Z 1), (Z 5), I0] [.deep, .deep, .deep, .deep, .deep, .deep, .deep, .deep]⟩,
    ⟨none, none, .store 8 (.t 5 [5]) (.t 16 [])⟩] [15, 16])
  (.seq (.region [⟨some 17, none, .load (some 8) (.t 5 [5])⟩,
    ⟨some 18, none, .call 169 [(.t 17 [5])]⟩,
    ⟨some 6, none, .take false (.t 18 [])⟩] [17, 18])
  (.seq (.seq (.region [⟨some 19, none, .mv false (.t 6 [])⟩,
     ⟨some 20, none, .mv false (.t 4 [])⟩,
     ⟨some 21, none, .bin .neq (.t 19 []) (.t 20 [])⟩] [4, 6, 19, 20])
   (.cond (.t 21 [])
    (.pre [.kill [1, 5, 21]] (.seq (.region [⟨some 2, none, .take false (.c (.bool false))⟩] [])
    .ret))
    (.pre [.kill [21]] .skip)))
  (.seq (.seq (.region [⟨some 22, none, .load (some 8) (.t 5 [5])⟩,
     ⟨some 23, none, .load (some 8) (.t 1 [1])⟩,
     ⟨some 24, none, .call 73 [(.t 23 [])]⟩,
     ⟨some 25, none, .call 75 [(.t 22 [5]), (.t 24 [])]⟩,
     ⟨some 26, none, .un .not (.t 25 [])⟩] [1, 5, 22, 23, 24, 25])
   (.cond (.t 26 [])
    (.pre [.kill [26]] (.seq (.region [⟨some 2, none, .take false (.c (.bool false))⟩] [])
    .ret))
    (.pre [.kill [26]] .skip)))
  (.seq (.region [⟨some 2, none, .take false (.c (.bool true))⟩] [])
  .ret))))))))))),
  [(2, none)], [(false, .deep)]⟩

def a_laws_szEdit : AFunc := ⟨[true, false], 18,
  (.pre [.kill [2, 3, 4, 5, 6, 7, 8, 9, 10, 11, 12, 13, 14, 15, 16, 17]] (.seq (.region [⟨some 2, none, .box false (.t 0 [])⟩,
    ⟨some 4, none, .take false (.c (I 0))⟩] [0, 4])
  (.seq (.region [⟨some 5, none, .faddr 1 (.t 2 [])⟩,
    ⟨some 6, none, .load none (.t 5 [2])⟩,
    ⟨some 7, none, .mv false (.t 1 [])⟩,
    ⟨some 8, none, .call 11 [(.t 6 []), (.t 7 [])]⟩,
    ⟨some 1, none, .take false (.t 8 [])⟩] [5, 6, 7, 8])
  (.seq (.seq (.region [⟨some 9, none, .mv false (.t 1 [])⟩,
     ⟨some 10, none, .bin .lss (.t 9 []) (.c (I 0))⟩] [9])
   (.cond (.t 10 [])
    (.pre [.kill [1, 2, 10]] (.seq (.region [⟨some 4, none, .take false (.c (I (-1)))⟩] [])
    .ret))
    (.pre [.kill [10]] .skip)))
  (.seq (.region [⟨some 11, none, .faddr 2 (.t 2 [])⟩,
    ⟨some 12, none, .load (some 5) (.t 11 [2])⟩,
    ⟨some 13, none, .mv false (.t 1 [])⟩,
    ⟨some 14, none, .call 76 [(.t 12 []), (.t 13 [])]⟩,
    ⟨some 1, none, .take false (.t 14 [])⟩] [2, 12, 13, 14])
  (.seq (.seq (.region [⟨some 15, none, .mv false (.t 1 [])⟩,
     ⟨some 16, none, .bin .lss (.t 15 []) (.c (I 0))⟩] [15])
   (.cond (.t 16 [])
    (.pre [.kill [1, 16]] (.seq (.region [⟨some 4, none, .take false (.c (I (-1)))⟩] [])
    .ret))
    (.pre [.kill [16]] .skip)))
  (.seq (.region [⟨some 17, none, .mv false (.t 1 [])⟩,
    ⟨some 4, none, .take false (.t 17 [])⟩] [1, 17])
  .ret))))))),
  [(4, none)], [(false, .deep)]⟩

def a_laws_toEdit : AFunc := ⟨[true], 19,
  (.pre [.kill [1, 2, 3, 4, 5, 6, 7, 8, 9, 10, 11, 12, 13, 14, 15, 16, 17, 18]] (.seq (.region [⟨some 1, none, .box false (.t 0 [])⟩,
    ⟨some 2, none, .alloc false [I0, (Z 3), I0, I0, S0, (Z 1), (Z 5), I0] [.deep, .deep, .deep, .deep, .deep, .deep, .deep, .deep]⟩] [0])
  (.seq (.region [⟨some 3, none, .alloc false [I0, (Z 3), I0, I0, S0, (Z 1), (Z 5), I0] [.deep, .deep, .deep, .deep, .deep, .deep, .deep, .deep]⟩] [])
  (.seq (.region [⟨some 4, none, .faddr 0 (.t 1 [])⟩,
    ⟨some 5, none, .load none (.t 4 [1])⟩,
    ⟨some 6, none, .faddr 0 (.t 3 [])⟩,
    ⟨none, none, .store 1 (.t 6 [3]) (.t 5 [])⟩] [4, 5, 6])
  (.seq (.region [⟨some 7, none, .faddr 1 (.t 1 [])⟩,
    ⟨some 8, none, .load none (.t 7 [1])⟩,
    ⟨some 9, none, .call 13 [(.t 8 [])]⟩,
    ⟨some 10, none, .faddr 1 (.t 3 [])⟩,
    ⟨none, none, .store 1 (.t 10 [3]) (.t 9 [])⟩] [7, 8, 9, 10])
  (.seq (.region [⟨some 11, none, .faddr 2 (.t 1 [])⟩,
    ⟨some 12, none, .load (some 5) (.t 11 [1])⟩,
    ⟨some 13, none, .call 78 [(.t 12 [])]⟩,
    ⟨some 14, none, .faddr 2 (.t 3 [])⟩,
    ⟨none, none, .store 5 (.t 14 [3]) (.t 13 [])⟩] [11, 12, 13, 14])
  (.seq (.region [⟨some 15, none, .faddr 7 (.t 1 [])⟩,
    ⟨some 16, none, .load none (.t 15 [1])⟩,
    ⟨some 17, none, .faddr 7 (.t 3 [])⟩,
    ⟨none, none, .store 1 (.t 17 [3]) (.t 16 [])⟩] [1, 16, 17])
  (.seq (.region [⟨some 18, none, .load (some 8) (.t 3 [3])⟩,
    ⟨none, none, .store 8 (.t 2 [2]) (.t 18 [3])⟩] [3, 18])
  .ret)))))))),
  [(2, some 8)], [(true, .deep)]⟩

def a_spec_EditText : AFunc := ⟨[true], 45,
  (.pre [.kill [1, 2, 3, 4, 5, 6, 7, 8, 9, 10, 11, 12, 13, 14, 15, 16, 17, 18, 19, 20, 21, 22, 23, 24, 25, 26, 27, 28, 29, 30, 31, 32, 33, 34, 35, 36, 37, 38, 39, 40, 41, 42, 43, 44]] (.seq (.region [⟨some 1, none, .box false (.t 0 [])⟩,
    ⟨some 2, none, .take false (.c (.str ⟨#[]⟩))⟩] [0, 2])
  (.seq (.region [⟨some 4, none, .faddr 1 (.t 1 [])⟩,
    ⟨some 5, none, .load none (.t 4 [1])⟩,
    ⟨some 6, none, .call 39 [(.t 5 [])]⟩,
    ⟨some 3, none, .take false (.t 6 [])⟩] [4, 5, 6])
  (.seq (.seq (.region [⟨some 7, none, .faddr 1 (.t 1 [])⟩,
     ⟨some 8, none, .load none (.t 7 [1])⟩,
     ⟨some 9, none, .len (.t 8 [])⟩,
     ⟨some 10, none, .bin .eql (.t 9 []) (.c (I 0))⟩] [7, 8, 9])
   (.cond (.t 10 [])
    (.pre [.kill [3, 10]] (.region [⟨some 3, none, .take false (.c (.str ⟨#[45]⟩))⟩] []))
    (.pre [.kill [10]] .skip)))
  (.seq (.seq (.region [⟨some 11, none, .faddr 0 (.t 1 [])⟩,
     ⟨some 12, none, .load none (.t 11 [1])⟩] [11])
   (.block 0 (.seq (.region [⟨some 14, none, .bin .eql (.t 12 []) (.c (I 1))⟩,
      ⟨some 13, none, .take false (.t 14 [])⟩] [14])
    (.cond (.t 13 [])
     (.pre [.kill [12, 13]] (.seq (.region [⟨some 15, none, .mv false (.t 3 [])⟩,
       ⟨some 16, none, .bin .add (.c (.str ⟨#[115, 101, 116, 32]⟩)) (.t 15 [])⟩,
       ⟨some 17, none, .bin .add (.t 16 []) (.c (.str ⟨#[32]⟩))⟩,
       ⟨some 18, none, .faddr 2 (.t 1 [])⟩,
       ⟨some 19, none, .load (some 5) (.t 18 [1])⟩,
       ⟨some 20, none, .call 200 [(.t 19 [])]⟩,
       ⟨some 21, none, .bin .add (.t 17 []) (.t 20 [])⟩,
       ⟨some 2, none, .take false (.t 21 [])⟩] [1, 3, 15, 16, 17, 19, 20, 21])
     .ret))
     (.pre [.kill [13]] (.seq (.region [⟨some 23, none, .bin .eql (.t 12 []) (.c (I 2))⟩,
       ⟨some 22, none, .take false (.t 23 [])⟩] [23])
     (.cond (.t 22 [])
      (.pre [.kill [12, 22]] (.seq (.region [⟨some 24, none, .mv false (.t 3 [])⟩,
        ⟨some 25, none, .bin .add (.c (.str ⟨#[105, 110, 115, 101, 114, 116, 32]⟩)) (.t 24 [])⟩,
        ⟨some 26, none, .bin .add (.t 25 []) (.c (.str ⟨#[32]⟩))⟩,
        ⟨some 27, none, .faddr 7 (.t 1 [])⟩,
        ⟨some 28, none, .load none (.t 27 [1])⟩,
        ⟨some 29, none, .call 69 [(.t 28 [])]⟩,
        ⟨some 30, none, .bin .add (.t 26 []) (.t 29 [])⟩,
        ⟨some 31, none, .bin .add (.t 30 []) (.c (.str ⟨#[32]⟩))⟩,
        ⟨some 32, none, .faddr 2 (.t 1 [])⟩,
        ⟨some 33, none, .load (some 5) (.t 32 [1])⟩,
        ⟨some 34, none, .call 200 [(.t 33 [])]⟩,
        ⟨some 35, none, .bin .add (.t 31 []) (.t 34 [])⟩,
        ⟨some 2, none, .take false (.t 35 [])⟩] [1, 3, 24, 25, 26, 28, 29, 30, 31, 33, 34, 35])
      .ret))
      (.pre [.kill [22]] (.seq (.region [⟨some 37, none, .bin .eql (.t 12 []) (.c (I 3))⟩,
        ⟨some 36, none, .take false (.t 37 [])⟩] [12, 37])
      (.cond (.t 36 [])
       (.pre [.kill [36]] (.seq (.region [⟨some 38, none, .mv false (.t 3 [])⟩,
         ⟨some 39, none, .bin .add (.c (.str ⟨#[100, 101, 108, 101, 116, 101, 32]⟩)) (.t 38 [])⟩,
         ⟨some 40, none, .bin .add (.t 39 []) (.c (.str ⟨#[32]⟩))⟩,
         ⟨some 41, none, .faddr 7 (.t 1 [])⟩,
         ⟨some 42, none, .load none (.t 41 [1])⟩,
         ⟨some 43, none, .call 69 [(.t 42 [])]⟩,
         ⟨some 44, none, .bin .add (.t 40 []) (.t 43 [])⟩,
         ⟨some 2, none, .take false (.t 44 [])⟩] [1, 3, 38, 39, 40, 42, 43, 44])
       .ret))
       (.pre [.kill [1, 3, 36]] .skip)))))))))))
  (.seq (.region [⟨some 2, none, .take false (.c (.str ⟨#[]⟩))⟩] [])
  .ret)))))),
  [(2, none)], [(false, .deep)]⟩

def a_impl_EditText : AFunc := ⟨[true], 45,
  (.pre [.kill [1, 2, 3, 4, 5, 6, 7, 8, 9, 10, 11, 12, 13, 14, 15, 16, 17, 18, 19, 20, 21, 22, 23, 24, 25, 26, 27, 28, 29, 30, 31, 32, 33, 34, 35, 36, 37, 38, 39, 40, 41, 42, 43, 44]] (.seq (.region [⟨some 1, none, .box false (.t 0 [])⟩,
    ⟨some 2, none, .take false (.c (.str ⟨#[]⟩))⟩] [0, 2])
  (.seq (.region [⟨some 4, none, .faddr 1 (.t 1 [])⟩,
    ⟨some 5, none, .load none (.t 4 [1])⟩,
    ⟨some 6, none, .call 40 [(.t 5 [])]⟩,
    ⟨some 3, none, .take false (.t 6 [])⟩] [4, 5, 6])
  (.seq (.seq (.region [⟨some 7, none, .faddr 1 (.t 1 [])⟩,
     ⟨some 8, none, .load none (.t 7 [1])⟩,
     ⟨some 9, none, .len (.t 8 [])⟩,
     ⟨some 10, none, .bin .eql (.t 9 []) (.c (I 0))⟩] [7, 8, 9])
   (.cond (.t 10 [])
    (.pre [.kill [3, 10]] (.region [⟨some 3, none, .take false (.c (.str ⟨#[45]⟩))⟩] []))
    (.pre [.kill [10]] .skip)))
  (.seq (.seq (.region [⟨some 11, none, .faddr 0 (.t 1 [])⟩,
     ⟨some 12, none, .load none (.t 11 [1])⟩] [11])
   (.block 0 (.seq (.region [⟨some 14, none, .bin .eql (.t 12 []) (.c (I 1))⟩,
      ⟨some 13, none, .take false (.t 14 [])⟩] [14])
    (.cond (.t 13 [])
     (.pre [.kill [12, 13]] (.seq (.region [⟨some 15, none, .mv false (.t 3 [])⟩,
       ⟨some 16, none, .bin .add (.c (.str ⟨#[115, 101, 116, 32]⟩)) (.t 15 [])⟩,
       ⟨some 17, none, .bin .add (.t 16 []) (.c (.str ⟨#[32]⟩))⟩,
       ⟨some 18, none, .faddr 2 (.t 1 [])⟩,
       ⟨some 19, none, .load (some 5) (.t 18 [1])⟩,
       ⟨some 20, none, .call 201 [(.t 19 [])]⟩,
       ⟨some 21, none, .bin .add (.t 17 []) (.t 20 [])⟩,
       ⟨some 2, none, .take false (.t 21 [])⟩] [1, 3, 15, 16, 17, 19, 20, 21])
     .ret))
     (.pre [.kill [13]] (.seq (.region [⟨some 23, none, .bin .eql (.t 12 []) (.c (I 2))⟩,
       ⟨some 22, none, .take false (.t 23 [])⟩] [23])
     (.cond (.t 22 [])
      (.pre [.kill [12, 22]] (.seq (.region [⟨some 24, none, .mv false (.t 3 [])⟩,
        ⟨some 25, none, .bin .add (.c (.str ⟨#[105, 110, 115, 101, 114, 116, 32]⟩)) (.t 24 [])⟩,
        ⟨some 26, none, .bin .add (.t 25 []) (.c (.str ⟨#[32]⟩))⟩,
        ⟨some 27, none, .faddr 7 (.t 1 [])⟩,
        ⟨some 28, none, .load none (.t 27 [1])⟩,
        ⟨some 29, none, .call 70 [(.t 28 [])]⟩,
        ⟨some 30, none, .bin .add (.t 26 []) (.t 29 [])⟩,
        ⟨some 31, none, .bin .add (.t 30 []) (.c (.str ⟨#[32]⟩))⟩,
        ⟨some 32, none, .faddr 2 (.t 1 [])⟩,
        ⟨some 33, none, .load (some 5) (.t 32 [1])⟩,
        ⟨some 34, none, .call 201 [(.t 33 [])]⟩,
        ⟨some 35, none, .bin .add (.t 31 []) (.t 34 [])⟩,
        ⟨some 2, none, .take false (.t 35 [])⟩] [1, 3, 24, 25, 26, 28, 29, 30, 31, 33, 34, 35])
      .ret))
      (.pre [.kill [22]] (.seq (.region [⟨some 37, none, .bin .eql (.t 12 []) (.c (I 3))⟩,
        ⟨some 36, none, .take false (.t 37 [])⟩] [12, 37])
      (.cond (.t 36 [])
       (.pre [.kill [36]] (.seq (.region [⟨some 38, none, .mv false (.t 3 [])⟩,
         ⟨some 39, none, .bin .add (.c (.str ⟨#[100, 101, 108, 101, 116, 101, 32]⟩)) (.t 38 [])⟩,
         ⟨some 40, none, .bin .add (.t 39 []) (.c (.str ⟨#[32]⟩))⟩,
         ⟨some 41, none, .faddr 7 (.t 1 [])⟩,
         ⟨some 42, none, .load none (.t 41 [1])⟩,
         ⟨some 43, none, .call 70 [(.t 42 [])]⟩,
         ⟨some 44, none, .bin .add (.t 40 []) (.t 43 [])⟩,
         ⟨some 2, none, .take false (.t 44 [])⟩] [1, 3, 38, 39, 40, 42, 43, 44])
       .ret))
       (.pre [.kill [1, 3, 36]] .skip)))))))))))
  (.seq (.region [⟨some 2, none, .take false (.c (.str ⟨#[]⟩))⟩] [])
  .ret)))))),
  [(2, none)], [(false, .deep)]⟩

def a_laws_eqEdit : AFunc := ⟨[true, true], 27,
  (.pre [.kill [2, 3, 4, 5, 6, 7, 8, 9, 10, 11, 12, 13, 14, 15, 16, 17, 18, 19, 20, 21, 22, 23, 24, 25, 26]] (.seq (.region [⟨some 2, none, .box false (.t 0 [])⟩,
    ⟨some 3, none, .box false (.t 1 [])⟩,
    ⟨some 4, none, .take false (.c (.bool false))⟩] [0, 1, 4])
  (.seq (.seq (.region [⟨some 5, none, .faddr 0 (.t 2 [])⟩,
     ⟨some 6, none, .load none (.t 5 [2])⟩,
     ⟨some 7, none, .faddr 0 (.t 3 [])⟩,
     ⟨some 8, none, .load none (.t 7 [3])⟩,
     ⟨some 9, none, .bin .neq (.t 6 []) (.t 8 [])⟩] [5, 6, 7, 8])
   (.cond (.t 9 [])
    (.pre [.kill [2, 3, 9]] (.seq (.region [⟨some 4, none, .take false (.c (.bool false))⟩] [])
    .ret))
    (.pre [.kill [9]] .skip)))
  (.seq (.seq (.region [⟨some 10, none, .faddr 1 (.t 2 [])⟩,
     ⟨some 11, none, .load none (.t 10 [2])⟩,
     ⟨some 12, none, .faddr 1 (.t 3 [])⟩,
     ⟨some 13, none, .load none (.t 12 [3])⟩,
     ⟨some 14, none, .call 15 [(.t 11 []), (.t 13 [])]⟩,
     ⟨some 15, none, .un .not (.t 14 [])⟩] [10, 11, 12, 13, 14])
   (.cond (.t 15 [])
    (.pre [.kill [2, 3, 15]] (.seq (.region [⟨some 4, none, .take false (.c (.bool false))⟩] [])
    .ret))
    (.pre [.kill [15]] .skip)))
  (.seq (.seq (.region [⟨some 16, none, .faddr 2 (.t 2 [])⟩,
     ⟨some 17, none, .load (some 5) (.t 16 [2])⟩,
     ⟨some 18, none, .faddr 2 (.t 3 [])⟩,
     ⟨some 19, none, .load (some 5) (.t 18 [3])⟩,
     ⟨some 20, none, .call 81 [(.t 17 []), (.t 19 [])]⟩,
     ⟨some 21, none, .un .not (.t 20 [])⟩] [16, 17, 18, 19, 20])
   (.cond (.t 21 [])
    (.pre [.kill [2, 3, 21]] (.seq (.region [⟨some 4, none, .take false (.c (.bool false))⟩] [])
    .ret))
    (.pre [.kill [21]] .skip)))
  (.seq (.seq (.region [⟨some 22, none, .faddr 7 (.t 2 [])⟩,
     ⟨some 23, none, .load none (.t 22 [2])⟩,
     ⟨some 24, none, .faddr 7 (.t 3 [])⟩,
     ⟨some 25, none, .load none (.t 24 [3])⟩,
     ⟨some 26, none, .bin .neq (.t 23 []) (.t 25 [])⟩] [2, 3, 23, 25])
   (.cond (.t 26 [])
    (.pre [.kill [26]] (.seq (.region [⟨some 4, none, .take false (.c (.bool false))⟩] [])
    .ret))
    (.pre [.kill [26]] .skip)))
  (.seq (.region [⟨some 4, none, .take false (.c (.bool true))⟩] [])
  .ret))))))),
  [(4, none)], [(false, .deep)]⟩

def a_laws_szStepS : AFunc := ⟨[false, false], 27,
  (.pre [.kill [2, 3, 4, 5, 6, 7, 8, 9, 10, 11, 12, 13, 14, 15, 16, 17, 18, 19, 20, 21, 22, 23, 24, 25, 26]] (.seq (.region [⟨some 4, none, .take false (.c (I 0))⟩] [4])
  (.seq (.region [⟨some 6, none, .mv false (.t 1 [])⟩,
    ⟨some 7, none, .mv false (.t 0 [])⟩,
    ⟨some 8, none, .len (.t 7 [])⟩,
    ⟨some 9, none, .bin .sub (.t 6 []) (.t 8 [])⟩,
    ⟨some 1, none, .take false (.t 9 [])⟩] [6, 7, 8, 9])
  (.seq (.seq (.region [⟨some 10, none, .mv false (.t 1 [])⟩,
     ⟨some 11, none, .bin .lss (.t 10 []) (.c (I 0))⟩] [10])
   (.cond (.t 11 [])
    (.pre [.kill [0, 1, 11]] (.seq (.region [⟨some 4, none, .take false (.c (I (-1)))⟩] [])
    .ret))
    (.pre [.kill [11]] .skip)))
  (.seq (.seq (.region [⟨some 5, none, .take false (.c (I 0))⟩] [])
   (.block 0 (.pre [.kill [4, 12, 13, 14, 15, 16, 17, 18, 19, 20, 21, 22, 23, 24, 25]] (.loop (.seq (.seq (.region [⟨some 12, none, .mv false (.t 5 [])⟩,
        ⟨some 13, none, .mv false (.t 0 [])⟩,
        ⟨some 14, none, .len (.t 13 [])⟩,
        ⟨some 15, none, .bin .lss (.t 12 []) (.t 14 [])⟩] [12, 13, 14])
      (.cond (.t 15 [])
       (.pre [.kill [15]] .skip)
       (.pre [.kill [0, 5, 15]] (.exit 0))))
     (.seq (.block 1 (.seq (.region [⟨some 18, none, .mv false (.t 0 [])⟩,
         ⟨some 19, none, .mv false (.t 5 [])⟩,
         ⟨some 20, none, .iaddr 3 (.t 18 []) (.t 19 [])⟩,
         ⟨some 21, none, .load (some 3) (.t 20 [])⟩,
         ⟨some 22, none, .mv false (.t 1 [])⟩,
         ⟨some 23, none, .call 59 [(.t 21 []), (.t 22 [])]⟩,
         ⟨some 1, none, .take false (.t 23 [])⟩] [18, 19, 20, 21, 22, 23])
       (.seq (.region [⟨some 24, none, .mv false (.t 1 [])⟩,
         ⟨some 25, none, .bin .lss (.t 24 []) (.c (I 0))⟩] [24])
       (.cond (.t 25 [])
        (.pre [.kill [0, 1, 5, 25]] (.seq (.region [⟨some 4, none, .take false (.c (I (-1)))⟩] [])
        .ret))
        (.pre [.kill [25]] .skip)))))
     (.region [⟨some 16, none, .mv false (.t 5 [])⟩,
      ⟨some 17, none, .bin .add (.t 16 []) (.c (I 1))⟩,
      ⟨some 5, none, .take false (.t 17 [])⟩] [16, 17])))))))
  (.seq (.region [⟨some 26, none, .mv false (.t 1 [])⟩,
    ⟨some 4, none, .take false (.t 26 [])⟩] [1, 26])
  .ret)))))),
  [(4, none)], [(false, .deep)]⟩

def a_laws_szValue : AFunc := ⟨[true, false], 25,
  (.pre [.kill [2, 3, 4, 5, 6, 7, 8, 9, 10, 11, 12, 13, 14, 15, 16, 17, 18, 19, 20, 21, 22, 23, 24]] (.seq (.region [⟨some 2, none, .box false (.t 0 [])⟩,
    ⟨some 4, none, .take false (.c (I 0))⟩] [0, 4])
  (.seq (.region [⟨some 5, none, .mv false (.t 1 [])⟩,
    ⟨some 6, none, .faddr 2 (.t 2 [])⟩,
    ⟨some 7, none, .load none (.t 6 [2])⟩,
    ⟨some 8, none, .lenS (.t 7 [])⟩,
    ⟨some 9, none, .bin .sub (.t 5 []) (.t 8 [])⟩,
    ⟨some 1, none, .take false (.t 9 [])⟩] [5, 6, 7, 8, 9])
  (.seq (.seq (.region [⟨some 10, none, .mv false (.t 1 [])⟩,
     ⟨some 11, none, .bin .lss (.t 10 []) (.c (I 0))⟩] [10])
   (.cond (.t 11 [])
    (.pre [.kill [1, 2, 11]] (.seq (.region [⟨some 4, none, .take false (.c (I (-1)))⟩] [])
    .ret))
    (.pre [.kill [11]] .skip)))
  (.seq (.region [⟨some 12, none, .faddr 3 (.t 2 [])⟩,
    ⟨some 13, none, .load none (.t 12 [2])⟩,
    ⟨some 14, none, .mv false (.t 1 [])⟩,
    ⟨some 15, none, .call 97 [(.t 13 []), (.t 14 [])]⟩,
    ⟨some 1, none, .take false (.t 15 [])⟩] [12, 13, 14, 15])
  (.seq (.seq (.region [⟨some 16, none, .mv false (.t 1 [])⟩,
     ⟨some 17, none, .bin .lss (.t 16 []) (.c (I 0))⟩] [16])
   (.cond (.t 17 [])
    (.pre [.kill [1, 2, 17]] (.seq (.region [⟨some 4, none, .take false (.c (I (-1)))⟩] [])
    .ret))
    (.pre [.kill [17]] .skip)))
  (.seq (.region [⟨some 18, none, .faddr 4 (.t 2 [])⟩,
    ⟨some 19, none, .load none (.t 18 [2])⟩,
    ⟨some 20, none, .mv false (.t 1 [])⟩,
    ⟨some 21, none, .call 98 [(.t 19 []), (.t 20 [])]⟩,
    ⟨some 1, none, .take false (.t 21 [])⟩] [2, 19, 20, 21])
  (.seq (.seq (.region [⟨some 22, none, .mv false (.t 1 [])⟩,
     ⟨some 23, none, .bin .lss (.t 22 []) (.c (I 0))⟩] [22])
   (.cond (.t 23 [])
    (.pre [.kill [1, 23]] (.seq (.region [⟨some 4, none, .take false (.c (I (-1)))⟩] [])
    .ret))
    (.pre [.kill [23]] .skip)))
  (.seq (.region [⟨some 24, none, .mv false (.t 1 [])⟩,
    ⟨some 4, none, .take false (.t 24 [])⟩] [1, 24])
  .ret))))))))),
  [(4, none)], [(false, .deep)]⟩

def a_laws_toStepS : AFunc := ⟨[false], 23,
  (.pre [.kill [1, 2, 3, 4, 5, 6, 7, 8, 9, 10, 11, 12, 13, 14, 15, 16, 17, 18, 19, 20, 21, 22]] (.seq (.region [⟨some 2, none, .take false (.c (Z 3))⟩] [2])
  (.seq (.region [⟨some 5, none, .mv false (.t 0 [])⟩,
    ⟨some 6, none, .len (.t 5 [])⟩,
    ⟨some 7, none, .make .deep 3 [I0, S0, I0] (.t 6 [])⟩,
    ⟨some 3, none, .take false (.t 7 [])⟩] [5, 6, 7])
  (.seq (.seq (.region [⟨some 4, none, .take false (.c (I 0))⟩] [])
   (.block 0 (.pre [.kill [8, 9, 10, 11, 12, 13, 14, 15, 16, 17, 18, 19, 20, 21]] (.loop (.seq (.seq (.region [⟨some 8, none, .mv false (.t 4 [])⟩,
        ⟨some 9, none, .mv false (.t 0 [])⟩,
        ⟨some 10, none, .len (.t 9 [])⟩,
        ⟨some 11, none, .bin .lss (.t 8 []) (.t 10 [])⟩] [8, 9, 10])
      (.cond (.t 11 [])
       (.pre [.kill [11]] .skip)
       (.pre [.kill [0, 4, 11]] (.exit 0))))
     (.seq (.block 1 (.region [⟨some 14, none, .mv false (.t 3 [])⟩,
        ⟨some 15, none, .mv false (.t 4 [])⟩,
        ⟨some 16, none, .mv false (.t 0 [])⟩,
        ⟨some 17, none, .mv false (.t 4 [])⟩,
        ⟨some 18, none, .iaddr 3 (.t 16 []) (.t 17 [])⟩,
        ⟨some 19, none, .load (some 3) (.t 18 [])⟩,
        ⟨some 20, none, .call 60 [(.t 19 [])]⟩,
        ⟨some 21, none, .iaddr 3 (.t 14 [3]) (.t 15 [])⟩,
        ⟨none, none, .store 3 (.t 21 [3]) (.t 20 [])⟩] [14, 15, 16, 17, 18, 19, 20]))
     (.region [⟨some 12, none, .mv false (.t 4 [])⟩,
      ⟨some 13, none, .bin .add (.t 12 []) (.c (I 1))⟩,
      ⟨some 4, none, .take false (.t 13 [])⟩] [12, 13])))))))
  (.seq (.region [⟨some 22, none, .mv false (.t 3 [])⟩,
    ⟨some 2, none, .take false (.t 22 [3])⟩] [3, 22])
  .ret))))),
  [(2, none)], [(false, .deep)]⟩

def a_laws_toValue : AFunc := ⟨[true], 22,
  (.pre [.kill [1, 2, 3, 4, 5, 6, 7, 8, 9, 10, 11, 12, 13, 14, 15, 16, 17, 18, 19, 20, 21]] (.seq (.region [⟨some 1, none, .box false (.t 0 [])⟩,
    ⟨some 2, none, .alloc false [I0, I0, S0, (Z 1), (Z 5)] [.deep, .deep, .deep, .deep, .deep]⟩] [0])
  (.seq (.region [⟨some 3, none, .alloc false [I0, I0, S0, (Z 1), (Z 5)] [.deep, .deep, .deep, .deep, .deep]⟩] [])
  (.seq (.region [⟨some 4, none, .faddr 0 (.t 1 [])⟩,
    ⟨some 5, none, .load none (.t 4 [1])⟩,
    ⟨some 6, none, .faddr 0 (.t 3 [])⟩,
    ⟨none, none, .store 1 (.t 6 [3]) (.t 5 [])⟩] [4, 5, 6])
  (.seq (.region [⟨some 7, none, .faddr 1 (.t 1 [])⟩,
    ⟨some 8, none, .load none (.t 7 [1])⟩,
    ⟨some 9, none, .faddr 1 (.t 3 [])⟩,
    ⟨none, none, .store 1 (.t 9 [3]) (.t 8 [])⟩] [7, 8, 9])
  (.seq (.region [⟨some 10, none, .faddr 2 (.t 1 [])⟩,
    ⟨some 11, none, .load none (.t 10 [1])⟩,
    ⟨some 12, none, .faddr 2 (.t 3 [])⟩,
    ⟨none, none, .store 1 (.t 12 [3]) (.t 11 [])⟩] [10, 11, 12])
  (.seq (.region [⟨some 13, none, .faddr 3 (.t 1 [])⟩,
    ⟨some 14, none, .load none (.t 13 [1])⟩,
    ⟨some 15, none, .call 100 [(.t 14 [])]⟩,
    ⟨some 16, none, .faddr 3 (.t 3 [])⟩,
    ⟨none, none, .store 1 (.t 16 [3]) (.t 15 [])⟩] [13, 14, 15, 16])
  (.seq (.region [⟨some 17, none, .faddr 4 (.t 1 [])⟩,
    ⟨some 18, none, .load none (.t 17 [1])⟩,
    ⟨some 19, none, .call 101 [(.t 18 [])]⟩,
    ⟨some 20, none, .faddr 4 (.t 3 [])⟩,
    ⟨none, none, .store 1 (.t 20 [3]) (.t 19 [])⟩] [1, 18, 19, 20])
  (.seq (.region [⟨some 21, none, .load (some 5) (.t 3 [3])⟩,
    ⟨none, none, .store 5 (.t 2 [2]) (.t 21 [3])⟩] [3, 21])
  .ret))))))))),
  [(2, some 5)], [(true, .deep)]⟩

def a_spec_PathText : AFunc := ⟨[false], 51,
  (.pre [.kill [1, 2, 3, 4, 5, 6, 7, 8, 9, 10, 11, 12, 13, 14, 15, 16, 17, 18, 19, 20, 21, 22, 23, 24, 25, 26, 27, 28, 29, 30, 31, 32, 33, 34, 35, 36, 37, 38, 39, 40, 41, 42, 43, 44, 45, 46, 47, 48, 49, 50]] (.seq (.region [⟨some 2, none, .take false (.c (.str ⟨#[]⟩))⟩] [2])
  (.seq (.seq (.region [⟨some 5, none, .mv false (.t 0 [])⟩,
     ⟨some 6, none, .call 16 [(.t 5 [])]⟩,
     ⟨some 7, none, .un .not (.t 6 [])⟩] [5, 6])
   (.cond (.t 7 [])
    (.pre [.kill [0, 7]] (.seq (.region [⟨some 2, none, .take false (.c (.str ⟨#[]⟩))⟩] [])
    .ret))
    (.pre [.kill [7]] .skip)))
  (.seq (.region [⟨some 3, none, .take false (.c (.str ⟨#[]⟩))⟩] [])
  (.seq (.seq (.region [⟨some 4, none, .take false (.c (I 0))⟩] [])
   (.block 0 (.pre [.kill [8, 9, 10, 11, 12, 13, 14, 15, 16, 17, 18, 19, 20, 21, 22, 23, 24, 25, 26, 27, 28, 29, 30, 31, 32, 33, 34, 35, 36, 37, 38, 39, 40, 41, 42, 43, 44, 45, 46, 47, 48, 49]] (.loop (.seq (.seq (.region [⟨some 8, none, .mv false (.t 4 [])⟩,
        ⟨some 9, none, .mv false (.t 0 [])⟩,
        ⟨some 10, none, .len (.t 9 [])⟩,
        ⟨some 11, none, .bin .lss (.t 8 []) (.t 10 [])⟩] [8, 9, 10])
      (.cond (.t 11 [])
       (.pre [.kill [11]] .skip)
       (.pre [.kill [0, 4, 11]] (.exit 0))))
     (.seq (.block 1 (.seq (.region [⟨some 14, none, .mv false (.t 0 [])⟩,
         ⟨some 15, none, .mv false (.t 4 [])⟩,
         ⟨some 16, none, .iaddr 3 (.t 14 []) (.t 15 [])⟩,
         ⟨some 17, none, .faddr 0 (.t 16 [])⟩,
         ⟨some 18, none, .load none (.t 17 [])⟩] [14, 15, 16, 17])
       (.block 2 (.seq (.region [⟨some 20, none, .bin .eql (.t 18 []) (.c (I 1))⟩,
          ⟨some 19, none, .take false (.t 20 [])⟩] [20])
        (.cond (.t 19 [])
         (.pre [.kill [18, 19]] (.region [⟨some 21, none, .mv false (.t 3 [])⟩,
          ⟨some 22, none, .bin .add (.t 21 []) (.c (.str ⟨#[46]⟩))⟩,
          ⟨some 23, none, .mv false (.t 0 [])⟩,
          ⟨some 24, none, .mv false (.t 4 [])⟩,
          ⟨some 25, none, .iaddr 3 (.t 23 []) (.t 24 [])⟩,
          ⟨some 26, none, .faddr 1 (.t 25 [])⟩,
          ⟨some 27, none, .load none (.t 26 [])⟩,
          ⟨some 28, none, .bin .add (.t 22 []) (.t 27 [])⟩,
          ⟨some 3, none, .take false (.t 28 [])⟩] [21, 22, 23, 24, 25, 26, 27, 28]))
         (.pre [.kill [19]] (.seq (.region [⟨some 30, none, .bin .eql (.t 18 []) (.c (I 2))⟩,
           ⟨some 29, none, .take false (.t 30 [])⟩] [30])
         (.cond (.t 29 [])
          (.pre [.kill [18, 29]] (.region [⟨some 31, none, .mv false (.t 3 [])⟩,
           ⟨some 32, none, .bin .add (.t 31 []) (.c (.str ⟨#[63]⟩))⟩,
           ⟨some 33, none, .mv false (.t 0 [])⟩,
           ⟨some 34, none, .mv false (.t 4 [])⟩,
           ⟨some 35, none, .iaddr 3 (.t 33 []) (.t 34 [])⟩,
           ⟨some 36, none, .faddr 1 (.t 35 [])⟩,
           ⟨some 37, none, .load none (.t 36 [])⟩,
           ⟨some 38, none, .bin .add (.t 32 []) (.t 37 [])⟩,
           ⟨some 3, none, .take false (.t 38 [])⟩] [31, 32, 33, 34, 35, 36, 37, 38]))
          (.pre [.kill [29]] (.seq (.region [⟨some 40, none, .bin .eql (.t 18 []) (.c (I 3))⟩,
            ⟨some 39, none, .take false (.t 40 [])⟩] [18, 40])
          (.cond (.t 39 [])
           (.pre [.kill [39]] (.region [⟨some 41, none, .mv false (.t 3 [])⟩,
            ⟨some 42, none, .bin .add (.t 41 []) (.c (.str ⟨#[35]⟩))⟩,
            ⟨some 43, none, .mv false (.t 0 [])⟩,
            ⟨some 44, none, .mv false (.t 4 [])⟩,
            ⟨some 45, none, .iaddr 3 (.t 43 []) (.t 44 [])⟩,
            ⟨some 46, none, .faddr 2 (.t 45 [])⟩,
            ⟨some 47, none, .load none (.t 46 [])⟩,
            ⟨some 48, none, .call 69 [(.t 47 [])]⟩,
            ⟨some 49, none, .bin .add (.t 42 []) (.t 48 [])⟩,
            ⟨some 3, none, .take false (.t 49 [])⟩] [41, 42, 43, 44, 45, 46, 47, 48, 49]))
           (.pre [.kill [39]] .skip))))))))))))
     (.region [⟨some 12, none, .mv false (.t 4 [])⟩,
      ⟨some 13, none, .bin .add (.t 12 []) (.c (I 1))⟩,
      ⟨some 4, none, .take false (.t 13 [])⟩] [12, 13])))))))
  (.seq (.region [⟨some 50, none, .mv false (.t 3 [])⟩,
    ⟨some 2, none, .take false (.t 50 [])⟩] [3, 50])
  .ret)))))),
  [(2, none)], [(false, .deep)]⟩

def a_spec_FormatValue : AFunc := ⟨[true], 8,
  (.pre [.kill [1, 2, 3, 4, 5, 6, 7]] (.seq (.region [⟨some 1, none, .box false (.t 0 [])⟩,
    ⟨some 2, none, .take false (.c (.str ⟨#[]⟩))⟩] [0, 2])
  (.seq (.seq (.region [⟨some 3, none, .load (some 5) (.t 1 [1])⟩,
     ⟨some 4, none, .call 180 [(.t 3 [])]⟩,
     ⟨some 5, none, .un .not (.t 4 [])⟩] [3, 4])
   (.cond (.t 5 [])
    (.pre [.kill [1, 5]] (.seq (.region [⟨some 2, none, .take false (.c (.str ⟨#[]⟩))⟩] [])
    .ret))
    (.pre [.kill [5]] .skip)))
  (.seq (.region [⟨some 6, none, .load (some 5) (.t 1 [1])⟩,
    ⟨some 7, none, .call 235 [(.t 6 [])]⟩,
    ⟨some 2, none, .take false (.t 7 [])⟩] [1, 6, 7])
  .ret)))),
  [(2, none)], [(false, .deep)]⟩

def a_spec_FormatInt : AFunc := ⟨[false], 31,
  (.pre [.kill [1, 2, 3, 4, 5, 6, 7, 8, 9, 10, 11, 12, 13, 14, 15, 16, 17, 18, 19, 20, 21, 22, 23, 24, 25, 26, 27, 28, 29, 30]] (.seq (.region [⟨some 2, none, .take false (.c (.str ⟨#[]⟩))⟩] [2])
  (.seq (.seq (.region [⟨some 6, none, .mv false (.t 0 [])⟩,
     ⟨some 7, none, .bin .eql (.t 6 []) (.c (I 0))⟩] [6])
   (.cond (.t 7 [])
    (.pre [.kill [0, 7]] (.seq (.region [⟨some 2, none, .take false (.c (.str ⟨#[48]⟩))⟩] [])
    .ret))
    (.pre [.kill [7]] .skip)))
  (.seq (.region [⟨some 8, none, .mv false (.t 0 [])⟩,
    ⟨some 9, none, .bin .lss (.t 8 []) (.c (I 0))⟩,
    ⟨some 3, none, .take false (.t 9 [])⟩] [8, 9])
  (.seq (.region [⟨some 4, none, .take false (.c (.str ⟨#[]⟩))⟩] [])
  (.seq (.block 0 (.pre [.kill [5, 10, 11, 12, 13, 14, 15, 16, 17, 18, 19, 20, 21, 22, 23, 24, 25, 26]] (.loop (.seq (.seq (.region [⟨some 10, none, .mv false (.t 0 [])⟩,
        ⟨some 11, none, .bin .neq (.t 10 []) (.c (I 0))⟩] [10])
      (.cond (.t 11 [])
       (.pre [.kill [11]] .skip)
       (.pre [.kill [0, 11]] (.exit 0))))
     (.block 1 (.seq (.region [⟨some 12, none, .mv false (.t 0 [])⟩,
        ⟨some 13, none, .bin .rem (.t 12 []) (.c (I 10))⟩,
        ⟨some 5, none, .take false (.t 13 [])⟩] [12, 13])
      (.seq (.seq (.region [⟨some 14, none, .mv false (.t 5 [])⟩,
         ⟨some 15, none, .bin .lss (.t 14 []) (.c (I 0))⟩] [14])
       (.cond (.t 15 [])
        (.pre [.kill [15]] (.region [⟨some 16, none, .mv false (.t 5 [])⟩,
         ⟨some 17, none, .bin .sub (.c (I 0)) (.t 16 [])⟩,
         ⟨some 5, none, .take false (.t 17 [])⟩] [16, 17]))
        (.pre [.kill [15]] .skip)))
      (.seq (.region [⟨some 18, none, .mv false (.t 5 [])⟩,
        ⟨some 19, none, .bin .add (.c (I 48)) (.t 18 [])⟩,
        ⟨some 20, none, .convInt .u8 (.t 19 [])⟩,
        ⟨some 21, none, .mkSl .deep 1 [(.int .u8 0)] 1 [(0, (.t 20 []))]⟩,
        ⟨some 22, none, .bytesStr (.t 21 [])⟩,
        ⟨some 23, none, .mv false (.t 4 [])⟩,
        ⟨some 24, none, .bin .add (.t 22 []) (.t 23 [])⟩,
        ⟨some 4, none, .take false (.t 24 [])⟩] [5, 18, 19, 20, 21, 22, 23, 24])
      (.region [⟨some 25, none, .mv false (.t 0 [])⟩,
       ⟨some 26, none, .bin .quo (.t 25 []) (.c (I 10))⟩,
       ⟨some 0, none, .take false (.t 26 [])⟩] [25, 26])))))))))
  (.seq (.seq (.region [⟨some 27, none, .mv false (.t 3 [])⟩] [3])
   (.cond (.t 27 [])
    (.pre [.kill [27]] (.seq (.region [⟨some 28, none, .mv false (.t 4 [])⟩,
      ⟨some 29, none, .bin .add (.c (.str ⟨#[45]⟩)) (.t 28 [])⟩,
      ⟨some 2, none, .take false (.t 29 [])⟩] [4, 28, 29])
    .ret))
    (.pre [.kill [27]] .skip)))
  (.seq (.region [⟨some 30, none, .mv false (.t 4 [])⟩,
    ⟨some 2, none, .take false (.t 30 [])⟩] [4, 30])
  .ret)))))))),
  [(2, none)], [(false, .deep)]⟩

def a_impl_PathText : AFunc := ⟨[false], 39,
  (.pre [.kill [1, 2, 3, 4, 5, 6, 7, 8, 9, 10, 11, 12, 13, 14, 15, 16, 17, 18, 19, 20, 21, 22, 23, 24, 25, 26, 27, 28, 29, 30, 31, 32, 33, 34, 35, 36, 37, 38]] (.seq (.region [⟨some 2, none, .take false (.c (.str ⟨#[]⟩))⟩] [2])
  (.seq (.seq (.region [⟨some 6, none, .mv false (.t 0 [])⟩,
     ⟨some 7, none, .call 17 [(.t 6 [])]⟩,
     ⟨some 8, none, .un .not (.t 7 [])⟩] [6, 7])
   (.cond (.t 8 [])
    (.pre [.kill [0, 8]] (.seq (.region [⟨some 2, none, .take false (.c (.str ⟨#[]⟩))⟩] [])
    .ret))
    (.pre [.kill [8]] .skip)))
  (.seq (.region [⟨some 3, none, .take false (.c (.str ⟨#[]⟩))⟩] [])
  (.seq (.seq (.region [⟨some 9, none, .mv false (.t 0 [])⟩,
     ⟨some 10, none, .len (.t 9 [])⟩,
     ⟨some 11, none, .take false (.c (I 0))⟩] [0])
   (.block 0 (.pre [.kill [5, 12, 13, 14, 15, 16, 17, 18, 19, 20, 21, 22, 23, 24, 25, 26, 27, 28, 29, 30, 31, 32, 33, 34, 35, 36, 37]] (.loop (.seq (.region [⟨some 12, none, .bin .lss (.t 11 []) (.t 10 [])⟩] [])
     (.seq (.cond (.t 12 [])
       (.pre [.kill [12]] .skip)
       (.pre [.kill [9, 10, 11, 12]] (.exit 0)))
     (.seq (.block 1 (.seq (.region [⟨some 13, none, .iaddr 3 (.t 9 []) (.t 11 [])⟩,
         ⟨some 14, none, .load (some 3) (.t 13 [])⟩,
         ⟨some 5, none, .alloc false [I0, S0, I0] [.deep, .deep, .deep]⟩,
         ⟨none, none, .store 3 (.t 5 [5]) (.t 14 [])⟩] [13, 14])
       (.seq (.region [⟨some 15, none, .faddr 0 (.t 5 [])⟩,
         ⟨some 16, none, .load none (.t 15 [5])⟩] [15])
       (.block 2 (.seq (.region [⟨some 24, none, .bin .eql (.t 16 []) (.c (I 1))⟩,
          ⟨some 23, none, .take false (.t 24 [])⟩] [24])
        (.cond (.t 23 [])
         (.pre [.kill [16, 23]] (.region [⟨some 25, none, .mv false (.t 3 [])⟩,
          ⟨some 26, none, .faddr 1 (.t 5 [])⟩,
          ⟨some 27, none, .load none (.t 26 [5])⟩,
          ⟨some 28, none, .bin .add (.c (.str ⟨#[46]⟩)) (.t 27 [])⟩,
          ⟨some 29, none, .bin .add (.t 25 []) (.t 28 [])⟩,
          ⟨some 3, none, .take false (.t 29 [])⟩] [5, 25, 27, 28, 29]))
         (.pre [.kill [23]] (.seq (.region [⟨some 31, none, .bin .eql (.t 16 []) (.c (I 2))⟩,
           ⟨some 30, none, .take false (.t 31 [])⟩] [16, 31])
         (.cond (.t 30 [])
          (.pre [.kill [30]] (.region [⟨some 32, none, .mv false (.t 3 [])⟩,
           ⟨some 33, none, .faddr 1 (.t 5 [])⟩,
           ⟨some 34, none, .load none (.t 33 [5])⟩,
           ⟨some 35, none, .bin .add (.c (.str ⟨#[63]⟩)) (.t 34 [])⟩,
           ⟨some 36, none, .bin .add (.t 32 []) (.t 35 [])⟩,
           ⟨some 3, none, .take false (.t 36 [])⟩] [5, 32, 34, 35, 36]))
          (.pre [.kill [30]] (.region [⟨some 17, none, .mv false (.t 3 [])⟩,
           ⟨some 18, none, .faddr 2 (.t 5 [])⟩,
           ⟨some 19, none, .load none (.t 18 [5])⟩,
           ⟨some 20, none, .call 70 [(.t 19 [])]⟩,
           ⟨some 21, none, .bin .add (.c (.str ⟨#[35]⟩)) (.t 20 [])⟩,
           ⟨some 22, none, .bin .add (.t 17 []) (.t 21 [])⟩,
           ⟨some 3, none, .take false (.t 22 [])⟩] [5, 17, 19, 20, 21, 22])))))))))))
     (.region [⟨some 37, none, .bin .add (.t 11 []) (.c (I 1))⟩,
      ⟨some 11, none, .mv false (.t 37 [])⟩] [37]))))))))
  (.seq (.region [⟨some 38, none, .mv false (.t 3 [])⟩,
    ⟨some 2, none, .take false (.t 38 [])⟩] [3, 38])
  .ret)))))),
  [(2, none)], [(false, .deep)]⟩

def a_impl_FormatValue : AFunc := ⟨[true], 8,
  (.pre [.kill [1, 2, 3, 4, 5, 6, 7]] (.seq (.region [⟨some 1, none, .box false (.t 0 [])⟩,
    ⟨some 2, none, .take false (.c (.str ⟨#[]⟩))⟩] [0, 2])
  (.seq (.seq (.region [⟨some 3, none, .load (some 5) (.t 1 [1])⟩,
     ⟨some 4, none, .call 182 [(.t 3 [])]⟩,
     ⟨some 5, none, .un .not (.t 4 [])⟩] [3, 4])
   (.cond (.t 5 [])
    (.pre [.kill [1, 5]] (.seq (.region [⟨some 2, none, .take false (.c (.str ⟨#[]⟩))⟩] [])
    .ret))
    (.pre [.kill [5]] .skip)))
  (.seq (.region [⟨some 6, none, .load (some 5) (.t 1 [1])⟩,
    ⟨some 7, none, .call 236 [(.t 6 [])]⟩,
    ⟨some 2, none, .take false (.t 7 [])⟩] [1, 6, 7])
  .ret)))),
  [(2, none)], [(false, .deep)]⟩

def a_impl_FormatInt : AFunc := ⟨[false], 13,
  (.pre [.kill [1, 2, 3, 4, 5, 6, 7, 8, 9, 10, 11, 12]] (.seq (.region [⟨some 2, none, .take false (.c (.str ⟨#[]⟩))⟩] [2])
  (.seq (.seq (.region [⟨some 3, none, .mv false (.t 0 [])⟩,
     ⟨some 4, none, .bin .lss (.t 3 []) (.c (I 0))⟩] [3])
   (.cond (.t 4 [])
    (.pre [.kill [4]] (.seq (.region [⟨some 5, none, .mv false (.t 0 [])⟩,
      ⟨some 6, none, .convInt .u64 (.t 5 [])⟩,
      ⟨some 7, none, .un .neg (.t 6 [])⟩,
      ⟨some 8, none, .call 96 [(.t 7 [])]⟩,
      ⟨some 9, none, .bin .add (.c (.str ⟨#[45]⟩)) (.t 8 [])⟩,
      ⟨some 2, none, .take false (.t 9 [])⟩] [0, 5, 6, 7, 8, 9])
    .ret))
    (.pre [.kill [4]] .skip)))
  (.seq (.region [⟨some 10, none, .mv false (.t 0 [])⟩,
    ⟨some 11, none, .convInt .u64 (.t 10 [])⟩,
    ⟨some 12, none, .call 96 [(.t 11 [])]⟩,
    ⟨some 2, none, .take false (.t 12 [])⟩] [0, 10, 11, 12])
  .ret)))),
  [(2, none)], [(false, .deep)]⟩

def a_laws_eqStepS : AFunc := ⟨[false, false], 27,
  (.pre [.kill [2, 3, 4, 5, 6, 7, 8, 9, 10, 11, 12, 13, 14, 15, 16, 17, 18, 19, 20, 21, 22, 23, 24, 25, 26]] (.seq (.region [⟨some 4, none, .take false (.c (.bool false))⟩] [4])
  (.seq (.seq (.region [⟨some 6, none, .mv false (.t 0 [])⟩,
     ⟨some 7, none, .len (.t 6 [])⟩,
     ⟨some 8, none, .mv false (.t 1 [])⟩,
     ⟨some 9, none, .len (.t 8 [])⟩,
     ⟨some 10, none, .bin .neq (.t 7 []) (.t 9 [])⟩] [6, 7, 8, 9])
   (.cond (.t 10 [])
    (.pre [.kill [0, 1, 10]] (.seq (.region [⟨some 4, none, .take false (.c (.bool false))⟩] [])
    .ret))
    (.pre [.kill [10]] .skip)))
  (.seq (.seq (.region [⟨some 5, none, .take false (.c (I 0))⟩] [])
   (.block 0 (.pre [.kill [4, 11, 12, 13, 14, 15, 16, 17, 18, 19, 20, 21, 22, 23, 24, 25, 26]] (.loop (.seq (.seq (.region [⟨some 11, none, .mv false (.t 5 [])⟩,
        ⟨some 12, none, .mv false (.t 0 [])⟩,
        ⟨some 13, none, .len (.t 12 [])⟩,
        ⟨some 14, none, .bin .lss (.t 11 []) (.t 13 [])⟩] [11, 12, 13])
      (.cond (.t 14 [])
       (.pre [.kill [14]] .skip)
       (.pre [.kill [0, 1, 5, 14]] (.exit 0))))
     (.seq (.block 1 (.seq (.region [⟨some 17, none, .mv false (.t 0 [])⟩,
         ⟨some 18, none, .mv false (.t 5 [])⟩,
         ⟨some 19, none, .iaddr 3 (.t 17 []) (.t 18 [])⟩,
         ⟨some 20, none, .load (some 3) (.t 19 [])⟩,
         ⟨some 21, none, .mv false (.t 1 [])⟩,
         ⟨some 22, none, .mv false (.t 5 [])⟩,
         ⟨some 23, none, .iaddr 3 (.t 21 []) (.t 22 [])⟩,
         ⟨some 24, none, .load (some 3) (.t 23 [])⟩,
         ⟨some 25, none, .call 61 [(.t 20 []), (.t 24 [])]⟩,
         ⟨some 26, none, .un .not (.t 25 [])⟩] [17, 18, 19, 20, 21, 22, 23, 24, 25])
       (.cond (.t 26 [])
        (.pre [.kill [0, 1, 5, 26]] (.seq (.region [⟨some 4, none, .take false (.c (.bool false))⟩] [])
        .ret))
        (.pre [.kill [26]] .skip))))
     (.region [⟨some 15, none, .mv false (.t 5 [])⟩,
      ⟨some 16, none, .bin .add (.t 15 []) (.c (I 1))⟩,
      ⟨some 5, none, .take false (.t 16 [])⟩] [15, 16])))))))
  (.seq (.region [⟨some 4, none, .take false (.c (.bool true))⟩] [])
  .ret))))),
  [(4, none)], [(false, .deep)]⟩

def a_laws_eqValue : AFunc := ⟨[true, true], 32,
  (.pre [.kill [2, 3, 4, 5, 6, 7, 8, 9, 10, 11, 12, 13, 14, 15, 16, 17, 18, 19, 20, 21, 22, 23, 24, 25, 26, 27, 28, 29, 30, 31]] (.seq (.region [⟨some 2, none, .box false (.t 0 [])⟩,
    ⟨some 3, none, .box false (.t 1 [])⟩,
    ⟨some 4, none, .take false (.c (.bool false))⟩] [0, 1, 4])
  (.seq (.seq (.region [⟨some 5, none, .faddr 0 (.t 2 [])⟩,
     ⟨some 6, none, .load none (.t 5 [2])⟩,
     ⟨some 7, none, .faddr 0 (.t 3 [])⟩,
     ⟨some 8, none, .load none (.t 7 [3])⟩,
     ⟨some 9, none, .bin .neq (.t 6 []) (.t 8 [])⟩] [5, 6, 7, 8])
   (.cond (.t 9 [])
    (.pre [.kill [2, 3, 9]] (.seq (.region [⟨some 4, none, .take false (.c (.bool false))⟩] [])
    .ret))
    (.pre [.kill [9]] .skip)))
  (.seq (.seq (.region [⟨some 10, none, .faddr 1 (.t 2 [])⟩,
     ⟨some 11, none, .load none (.t 10 [2])⟩,
     ⟨some 12, none, .faddr 1 (.t 3 [])⟩,
     ⟨some 13, none, .load none (.t 12 [3])⟩,
     ⟨some 14, none, .bin .neq (.t 11 []) (.t 13 [])⟩] [10, 11, 12, 13])
   (.cond (.t 14 [])
    (.pre [.kill [2, 3, 14]] (.seq (.region [⟨some 4, none, .take false (.c (.bool false))⟩] [])
    .ret))
    (.pre [.kill [14]] .skip)))
  (.seq (.seq (.region [⟨some 15, none, .faddr 2 (.t 2 [])⟩,
     ⟨some 16, none, .load none (.t 15 [2])⟩,
     ⟨some 17, none, .faddr 2 (.t 3 [])⟩,
     ⟨some 18, none, .load none (.t 17 [3])⟩,
     ⟨some 19, none, .bin .neq (.t 16 []) (.t 18 [])⟩] [15, 16, 17, 18])
   (.cond (.t 19 [])
    (.pre [.kill [2, 3, 19]] (.seq (.region [⟨some 4, none, .take false (.c (.bool false))⟩] [])
    .ret))
    (.pre [.kill [19]] .skip)))
  (.seq (.seq (.region [⟨some 20, none, .faddr 3 (.t 2 [])⟩,
     ⟨some 21, none, .load none (.t 20 [2])⟩,
     ⟨some 22, none, .faddr 3 (.t 3 [])⟩,
     ⟨some 23, none, .load none (.t 22 [3])⟩,
     ⟨some 24, none, .call 103 [(.t 21 []), (.t 23 [])]⟩,
     ⟨some 25, none, .un .not (.t 24 [])⟩] [20, 21, 22, 23, 24])
   (.cond (.t 25 [])
    (.pre [.kill [2, 3, 25]] (.seq (.region [⟨some 4, none, .take false (.c (.bool false))⟩] [])
    .ret))
    (.pre [.kill [25]] .skip)))
  (.seq (.seq (.region [⟨some 26, none, .faddr 4 (.t 2 [])⟩,
     ⟨some 27, none, .load none (.t 26 [2])⟩,
     ⟨some 28, none, .faddr 4 (.t 3 [])⟩,
     ⟨some 29, none, .load none (.t 28 [3])⟩,
     ⟨some 30, none, .call 104 [(.t 27 []), (.t 29 [])]⟩,
     ⟨some 31, none, .un .not (.t 30 [])⟩] [2, 3, 27, 29, 30])
   (.cond (.t 31 [])
    (.pre [.kill [31]] (.seq (.region [⟨some 4, none, .take false (.c (.bool false))⟩] [])
    .ret))
    (.pre [.kill [31]] .skip)))
  (.seq (.region [⟨some 4, none, .take false (.c (.bool true))⟩] [])
  .ret)))))))),
  [(4, none)], [(false, .deep)]⟩

def a_laws_szStep : AFunc := ⟨[true, false], 13,
  (.pre [.kill [2, 3, 4, 5, 6, 7, 8, 9, 10, 11, 12]] (.seq (.region [⟨some 2, none, .box false (.t 0 [])⟩,
    ⟨some 4, none, .take false (.c (I 0))⟩] [0, 4])
  (.seq (.region [⟨some 5, none, .mv false (.t 1 [])⟩,
    ⟨some 6, none, .faddr 1 (.t 2 [])⟩,
    ⟨some 7, none, .load none (.t 6 [2])⟩,
    ⟨some 8, none, .lenS (.t 7 [])⟩,
    ⟨some 9, none, .bin .sub (.t 5 []) (.t 8 [])⟩,
    ⟨some 1, none, .take false (.t 9 [])⟩] [2, 5, 7, 8, 9])
  (.seq (.seq (.region [⟨some 10, none, .mv false (.t 1 [])⟩,
     ⟨some 11, none, .bin .lss (.t 10 []) (.c (I 0))⟩] [10])
   (.cond (.t 11 [])
    (.pre [.kill [1, 11]] (.seq (.region [⟨some 4, none, .take false (.c (I (-1)))⟩] [])
    .ret))
    (.pre [.kill [11]] .skip)))
  (.seq (.region [⟨some 12, none, .mv false (.t 1 [])⟩,
    ⟨some 4, none, .take false (.t 12 [])⟩] [1, 12])
  .ret))))),
  [(4, none)], [(false, .deep)]⟩

def a_laws_szStringS : AFunc := ⟨[false, false], 28,
  (.pre [.kill [2, 3, 4, 5, 6, 7, 8, 9, 10, 11, 12, 13, 14, 15, 16, 17, 18, 19, 20, 21, 22, 23, 24, 25, 26, 27]] (.seq (.region [⟨some 4, none, .take false (.c (I 0))⟩] [4])
  (.seq (.region [⟨some 6, none, .mv false (.t 1 [])⟩,
    ⟨some 7, none, .mv false (.t 0 [])⟩,
    ⟨some 8, none, .len (.t 7 [])⟩,
    ⟨some 9, none, .bin .sub (.t 6 []) (.t 8 [])⟩,
    ⟨some 1, none, .take false (.t 9 [])⟩] [6, 7, 8, 9])
  (.seq (.seq (.region [⟨some 10, none, .mv false (.t 1 [])⟩,
     ⟨some 11, none, .bin .lss (.t 10 []) (.c (I 0))⟩] [10])
   (.cond (.t 11 [])
    (.pre [.kill [0, 1, 11]] (.seq (.region [⟨some 4, none, .take false (.c (I (-1)))⟩] [])
    .ret))
    (.pre [.kill [11]] .skip)))
  (.seq (.seq (.region [⟨some 5, none, .take false (.c (I 0))⟩] [])
   (.block 0 (.pre [.kill [4, 12, 13, 14, 15, 16, 17, 18, 19, 20, 21, 22, 23, 24, 25, 26]] (.loop (.seq (.seq (.region [⟨some 12, none, .mv false (.t 5 [])⟩,
        ⟨some 13, none, .mv false (.t 0 [])⟩,
        ⟨some 14, none, .len (.t 13 [])⟩,
        ⟨some 15, none, .bin .lss (.t 12 []) (.t 14 [])⟩] [12, 13, 14])
      (.cond (.t 15 [])
       (.pre [.kill [15]] .skip)
       (.pre [.kill [0, 5, 15]] (.exit 0))))
     (.seq (.block 1 (.seq (.region [⟨some 18, none, .mv false (.t 1 [])⟩,
         ⟨some 19, none, .mv false (.t 0 [])⟩,
         ⟨some 20, none, .mv false (.t 5 [])⟩,
         ⟨some 21, none, .iaddr 1 (.t 19 []) (.t 20 [])⟩,
         ⟨some 22, none, .load none (.t 21 [])⟩,
         ⟨some 23, none, .lenS (.t 22 [])⟩,
         ⟨some 24, none, .bin .sub (.t 18 []) (.t 23 [])⟩,
         ⟨some 1, none, .take false (.t 24 [])⟩] [18, 19, 20, 21, 22, 23, 24])
       (.seq (.region [⟨some 25, none, .mv false (.t 1 [])⟩,
         ⟨some 26, none, .bin .lss (.t 25 []) (.c (I 0))⟩] [25])
       (.cond (.t 26 [])
        (.pre [.kill [0, 1, 5, 26]] (.seq (.region [⟨some 4, none, .take false (.c (I (-1)))⟩] [])
        .ret))
        (.pre [.kill [26]] .skip)))))
     (.region [⟨some 16, none, .mv false (.t 5 [])⟩,
      ⟨some 17, none, .bin .add (.t 16 []) (.c (I 1))⟩,
      ⟨some 5, none, .take false (.t 17 [])⟩] [16, 17])))))))
  (.seq (.region [⟨some 27, none, .mv false (.t 1 [])⟩,
    ⟨some 4, none, .take false (.t 27 [])⟩] [1, 27])
  .ret)))))),
  [(4, none)], [(false, .deep)]⟩

def a_laws_szValueS : AFunc := ⟨[false, false], 27,
  (.pre [.kill [2, 3, 4, 5, 6, 7, 8, 9, 10, 11, 12, 13, 14, 15, 16, 17, 18, 19, 20, 21, 22, 23, 24, 25, 26]] (.seq (.region [⟨some 4, none, .take false (.c (I 0))⟩] [4])
  (.seq (.region [⟨some 6, none, .mv false (.t 1 [])⟩,
    ⟨some 7, none, .mv false (.t 0 [])⟩,
    ⟨some 8, none, .len (.t 7 [])⟩,
    ⟨some 9, none, .bin .sub (.t 6 []) (.t 8 [])⟩,
    ⟨some 1, none, .take false (.t 9 [])⟩] [6, 7, 8, 9])
  (.seq (.seq (.region [⟨some 10, none, .mv false (.t 1 [])⟩,
     ⟨some 11, none, .bin .lss (.t 10 []) (.c (I 0))⟩] [10])
   (.cond (.t 11 [])
    (.pre [.kill [0, 1, 11]] (.seq (.region [⟨some 4, none, .take false (.c (I (-1)))⟩] [])
    .ret))
    (.pre [.kill [11]] .skip)))
  (.seq (.seq (.region [⟨some 5, none, .take false (.c (I 0))⟩] [])
   (.block 0 (.pre [.kill [4, 12, 13, 14, 15, 16, 17, 18, 19, 20, 21, 22, 23, 24, 25]] (.loop (.seq (.seq (.region [⟨some 12, none, .mv false (.t 5 [])⟩,
        ⟨some 13, none, .mv false (.t 0 [])⟩,
        ⟨some 14, none, .len (.t 13 [])⟩,
        ⟨some 15, none, .bin .lss (.t 12 []) (.t 14 [])⟩] [12, 13, 14])
      (.cond (.t 15 [])
       (.pre [.kill [15]] .skip)
       (.pre [.kill [0, 5, 15]] (.exit 0))))
     (.seq (.block 1 (.seq (.region [⟨some 18, none, .mv false (.t 0 [])⟩,
         ⟨some 19, none, .mv false (.t 5 [])⟩,
         ⟨some 20, none, .iaddr 5 (.t 18 []) (.t 19 [])⟩,
         ⟨some 21, none, .load (some 5) (.t 20 [])⟩,
         ⟨some 22, none, .mv false (.t 1 [])⟩,
         ⟨some 23, none, .call 76 [(.t 21 []), (.t 22 [])]⟩,
         ⟨some 1, none, .take false (.t 23 [])⟩] [18, 19, 20, 21, 22, 23])
       (.seq (.region [⟨some 24, none, .mv false (.t 1 [])⟩,
         ⟨some 25, none, .bin .lss (.t 24 []) (.c (I 0))⟩] [24])
       (.cond (.t 25 [])
        (.pre [.kill [0, 1, 5, 25]] (.seq (.region [⟨some 4, none, .take false (.c (I (-1)))⟩] [])
        .ret))
        (.pre [.kill [25]] .skip)))))
     (.region [⟨some 16, none, .mv false (.t 5 [])⟩,
      ⟨some 17, none, .bin .add (.t 16 []) (.c (I 1))⟩,
      ⟨some 5, none, .take false (.t 17 [])⟩] [16, 17])))))))
  (.seq (.region [⟨some 26, none, .mv false (.t 1 [])⟩,
    ⟨some 4, none, .take false (.t 26 [])⟩] [1, 26])
  .ret)))))),
  [(4, none)], [(false, .deep)]⟩

def a_laws_toStep : AFunc := ⟨[true], 14,
  (.pre [.kill [1, 2, 3, 4, 5, 6, 7, 8, 9, 10, 11, 12, 13]] (.seq (.region [⟨some 1, none, .box false (.t 0 [])⟩,
    ⟨some 2, none, .alloc false [I0, S0, I0] [.deep, .deep, .deep]⟩] [0])
  (.seq (.region [⟨some 3, none, .alloc false [I0, S0, I0] [.deep, .deep, .deep]⟩] [])
  (.seq (.region [⟨some 4, none, .faddr 0 (.t 1 [])⟩,
    ⟨some 5, none, .load none (.t 4 [1])⟩,
    ⟨some 6, none, .faddr 0 (.t 3 [])⟩,
    ⟨none, none, .store 1 (.t 6 [3]) (.t 5 [])⟩] [4, 5, 6])
  (.seq (.region [⟨some 7, none, .faddr 1 (.t 1 [])⟩,
    ⟨some 8, none, .load none (.t 7 [1])⟩,
    ⟨some 9, none, .faddr 1 (.t 3 [])⟩,
    ⟨none, none, .store 1 (.t 9 [3]) (.t 8 [])⟩] [7, 8, 9])
  (.seq (.region [⟨some 10, none, .faddr 2 (.t 1 [])⟩,
    ⟨some 11, none, .load none (.t 10 [1])⟩,
    ⟨some 12, none, .faddr 2 (.t 3 [])⟩,
    ⟨none, none, .store 1 (.t 12 [3]) (.t 11 [])⟩] [1, 11, 12])
  (.seq (.region [⟨some 13, none, .load (some 3) (.t 3 [3])⟩,
    ⟨none, none, .store 3 (.t 2 [2]) (.t 13 [])⟩] [3, 13])
  .ret))))))),
  [(2, some 3)], [(true, .deep)]⟩

def a_laws_toStringS : AFunc := ⟨[false], 22,
  (.pre [.kill [1, 2, 3, 4, 5, 6, 7, 8, 9, 10, 11, 12, 13, 14, 15, 16, 17, 18, 19, 20, 21]] (.seq (.region [⟨some 2, none, .take false (.c (Z 1))⟩] [2])
  (.seq (.region [⟨some 5, none, .mv false (.t 0 [])⟩,
    ⟨some 6, none, .len (.t 5 [])⟩,
    ⟨some 7, none, .make .deep 1 [S0] (.t 6 [])⟩,
    ⟨some 3, none, .take false (.t 7 [])⟩] [5, 6, 7])
  (.seq (.seq (.region [⟨some 4, none, .take false (.c (I 0))⟩] [])
   (.block 0 (.pre [.kill [8, 9, 10, 11, 12, 13, 14, 15, 16, 17, 18, 19, 20]] (.loop (.seq (.seq (.region [⟨some 8, none, .mv false (.t 4 [])⟩,
        ⟨some 9, none, .mv false (.t 0 [])⟩,
        ⟨some 10, none, .len (.t 9 [])⟩,
        ⟨some 11, none, .bin .lss (.t 8 []) (.t 10 [])⟩] [8, 9, 10])
      (.cond (.t 11 [])
       (.pre [.kill [11]] .skip)
       (.pre [.kill [0, 4, 11]] (.exit 0))))
     (.seq (.block 1 (.region [⟨some 14, none, .mv false (.t 3 [])⟩,
        ⟨some 15, none, .mv false (.t 4 [])⟩,
        ⟨some 16, none, .mv false (.t 0 [])⟩,
        ⟨some 17, none, .mv false (.t 4 [])⟩,
        ⟨some 18, none, .iaddr 1 (.t 16 []) (.t 17 [])⟩,
        ⟨some 19, none, .load none (.t 18 [])⟩,
        ⟨some 20, none, .iaddr 1 (.t 14 [3]) (.t 15 [])⟩,
        ⟨none, none, .store 1 (.t 20 [3]) (.t 19 [])⟩] [14, 15, 16, 17, 18, 19]))
     (.region [⟨some 12, none, .mv false (.t 4 [])⟩,
      ⟨some 13, none, .bin .add (.t 12 []) (.c (I 1))⟩,
      ⟨some 4, none, .take false (.t 13 [])⟩] [12, 13])))))))
  (.seq (.region [⟨some 21, none, .mv false (.t 3 [])⟩,
    ⟨some 2, none, .take false (.t 21 [3])⟩] [3, 21])
  .ret))))),
  [(2, none)], [(false, .deep)]⟩

def a_laws_toValueS : AFunc := ⟨[false], 23,
  (.pre [.kill [1, 2, 3, 4, 5, 6, 7, 8, 9, 10, 11, 12, 13, 14, 15, 16, 17, 18, 19, 20, 21, 22]] (.seq (.region [⟨some 2, none, .take false (.c (Z 5))⟩] [2])
  (.seq (.region [⟨some 5, none, .mv false (.t 0 [])⟩,
    ⟨some 6, none, .len (.t 5 [])⟩,
    ⟨some 7, none, .make .deep 5 [I0, I0, S0, (Z 1), (Z 5)] (.t 6 [])⟩,
    ⟨some 3, none, .take false (.t 7 [])⟩] [5, 6, 7])
  (.seq (.seq (.region [⟨some 4, none, .take false (.c (I 0))⟩] [])
   (.block 0 (.pre [.kill [8, 9, 10, 11, 12, 13, 14, 15, 16, 17, 18, 19, 20, 21]] (.loop (.seq (.seq (.region [⟨some 8, none, .mv false (.t 4 [])⟩,
        ⟨some 9, none, .mv false (.t 0 [])⟩,
        ⟨some 10, none, .len (.t 9 [])⟩,
        ⟨some 11, none, .bin .lss (.t 8 []) (.t 10 [])⟩] [8, 9, 10])
      (.cond (.t 11 [])
       (.pre [.kill [11]] .skip)
       (.pre [.kill [0, 4, 11]] (.exit 0))))
     (.seq (.block 1 (.region [⟨some 14, none, .mv false (.t 3 [])⟩,
        ⟨some 15, none, .mv false (.t 4 [])⟩,
        ⟨some 16, none, .mv false (.t 0 [])⟩,
        ⟨some 17, none, .mv false (.t 4 [])⟩,
        ⟨some 18, none, .iaddr 5 (.t 16 []) (.t 17 [])⟩,
        ⟨some 19, none, .load (some 5) (.t 18 [])⟩,
        ⟨some 20, none, .call 78 [(.t 19 [])]⟩,
        ⟨some 21, none, .iaddr 5 (.t 14 [3]) (.t 15 [])⟩,
        ⟨none, none, .store 5 (.t 21 [3]) (.t 20 [])⟩] [14, 15, 16, 17, 18, 19, 20]))
     (.region [⟨some 12, none, .mv false (.t 4 [])⟩,
      ⟨some 13, none, .bin .add (.t 12 []) (.c (I 1))⟩,
      ⟨some 4, none, .take false (.t 13 [])⟩] [12, 13])))))))
  (.seq (.region [⟨some 22, none, .mv false (.t 3 [])⟩,
    ⟨some 2, none, .take false (.t 22 [3])⟩] [3, 22])
  .ret))))),
  [(2, none)], [(false, .deep)]⟩

def a_spec_IsPath : AFunc := ⟨[false], 43,
  (.pre [.kill [1, 2, 3, 4, 5, 6, 7, 8, 9, 10, 11, 12, 13, 14, 15, 16, 17, 18, 19, 20, 21, 22, 23, 24, 25, 26, 27, 28, 29, 30, 31, 32, 33, 34, 35, 36, 37, 38, 39, 40, 41, 42]] (.seq (.region [⟨some 2, none, .take false (.c (.bool false))⟩] [2])
  (.seq (.seq (.region [⟨some 3, none, .take false (.c (I 0))⟩] [])
   (.block 0 (.pre [.kill [2, 4, 5, 6, 7, 8, 9, 10, 11, 12, 13, 14, 15, 16, 17, 18, 19, 20, 21, 22, 23, 24, 25, 26, 27, 28, 29, 30, 31, 32, 33, 34, 35, 36, 37, 38, 39]] (.loop (.seq (.seq (.region [⟨some 5, none, .mv false (.t 3 [])⟩,
        ⟨some 6, none, .mv false (.t 0 [])⟩,
        ⟨some 7, none, .len (.t 6 [])⟩,
        ⟨some 8, none, .bin .lss (.t 5 []) (.t 7 [])⟩] [5, 6, 7])
      (.cond (.t 8 [])
       (.pre [.kill [8]] .skip)
       (.pre [.kill [3, 8]] (.exit 0))))
     (.seq (.block 1 (.seq (.region [⟨some 11, none, .mv false (.t 0 [])⟩,
         ⟨some 12, none, .mv false (.t 3 [])⟩,
         ⟨some 13, none, .iaddr 3 (.t 11 []) (.t 12 [])⟩,
         ⟨some 14, none, .load (some 3) (.t 13 [])⟩,
         ⟨some 4, none, .alloc false [I0, S0, I0] [.deep, .deep, .deep]⟩,
         ⟨none, none, .store 3 (.t 4 [4]) (.t 14 [])⟩] [11, 12, 13, 14])
       (.seq (.region [⟨some 15, none, .faddr 0 (.t 4 [])⟩,
         ⟨some 16, none, .load none (.t 15 [4])⟩] [15])
       (.block 2 (.seq (.seq (.region [⟨some 18, none, .bin .eql (.t 16 []) (.c (I 1))⟩,
           ⟨some 17, none, .take false (.t 18 [])⟩] [18])
         (.cond (.t 17 [])
          .skip
          (.pre [.kill [17]] (.region [⟨some 19, none, .bin .eql (.t 16 []) (.c (I 2))⟩,
           ⟨some 17, none, .take false (.t 19 [])⟩] [19]))))
        (.cond (.t 17 [])
         (.pre [.kill [16, 17]] (.seq (.region [⟨some 20, none, .faddr 1 (.t 4 [])⟩,
           ⟨some 21, none, .load none (.t 20 [4])⟩,
           ⟨some 22, none, .call 62 [(.t 21 [])]⟩,
           ⟨some 23, none, .un .not (.t 22 [])⟩,
           ⟨some 24, none, .mv false (.t 23 [])⟩,
           ⟨some 25, some (24, false), .faddr 2 (.t 4 [])⟩,
           ⟨some 26, some (24, false), .load none (.t 25 [4])⟩,
           ⟨some 27, some (24, false), .bin .neq (.t 26 []) (.c (I 0))⟩,
           ⟨some 28, none, .pick (.t 24 []) (.c (.bool true)) (.t 27 [])⟩] [4, 21, 22, 23, 24, 25, 26, 27])
         (.cond (.t 28 [])
          (.pre [.kill [0, 3, 28]] (.seq (.region [⟨some 2, none, .take false (.c (.bool false))⟩] [])
          .ret))
          (.pre [.kill [28]] .skip))))
         (.pre [.kill [17]] (.seq (.region [⟨some 30, none, .bin .eql (.t 16 []) (.c (I 3))⟩,
           ⟨some 29, none, .take false (.t 30 [])⟩] [16, 30])
         (.cond (.t 29 [])
          (.pre [.kill [29]] (.seq (.region [⟨some 31, none, .faddr 1 (.t 4 [])⟩,
            ⟨some 32, none, .load none (.t 31 [4])⟩,
            ⟨some 33, none, .bin .neq (.t 32 []) (.c (.str ⟨#[]⟩))⟩,
            ⟨some 34, none, .mv false (.t 33 [])⟩,
            ⟨some 35, some (34, false), .faddr 2 (.t 4 [])⟩,
            ⟨some 36, some (34, false), .load none (.t 35 [4])⟩,
            ⟨some 37, some (34, false), .call 63 [(.t 36 []), (.c (I 0)), (.c (I 1000))]⟩,
            ⟨some 38, some (34, false), .un .not (.t 37 [])⟩,
            ⟨some 39, none, .pick (.t 34 []) (.c (.bool true)) (.t 38 [])⟩] [4, 32, 33, 34, 35, 36, 37, 38])
          (.cond (.t 39 [])
           (.pre [.kill [0, 3, 39]] (.seq (.region [⟨some 2, none, .take false (.c (.bool false))⟩] [])
           .ret))
           (.pre [.kill [39]] .skip))))
          (.pre [.kill [0, 3, 4, 29]] (.seq (.region [⟨some 2, none, .take false (.c (.bool false))⟩] [])
          .ret)))))))))))
     (.region [⟨some 9, none, .mv false (.t 3 [])⟩,
      ⟨some 10, none, .bin .add (.t 9 []) (.c (I 1))⟩,
      ⟨some 3, none, .take false (.t 10 [])⟩] [9, 10])))))))
  (.seq (.region [⟨some 40, none, .mv false (.t 0 [])⟩,
    ⟨some 41, none, .len (.t 40 [])⟩,
    ⟨some 42, none, .bin .leq (.t 41 []) (.c (I 12))⟩,
    ⟨some 2, none, .take false (.t 42 [])⟩] [0, 40, 41, 42])
  .ret)))),
  [(2, none)], [(false, .deep)]⟩

def a_spec_IsValue : AFunc := ⟨[true], 10,
  (.pre [.kill [1, 2, 3, 4, 5, 6, 7, 8, 9]] (.seq (.region [⟨some 1, none, .box false (.t 0 [])⟩,
    ⟨some 2, none, .take false (.c (.bool false))⟩] [0, 2])
  (.seq (.region [⟨some 3, none, .load (some 5) (.t 1 [1])⟩,
    ⟨some 4, none, .call 212 [(.t 3 []), (.c (I 300))]⟩,
    ⟨some 5, none, .bin .geq (.t 4 []) (.c (I 0))⟩,
    ⟨some 6, none, .mv false (.t 5 [])⟩,
    ⟨some 7, some (6, true), .load (some 5) (.t 1 [1])⟩,
    ⟨some 8, some (6, true), .call 213 [(.t 7 [])]⟩,
    ⟨some 9, none, .pick (.t 6 []) (.t 8 []) (.c (.bool false))⟩,
    ⟨some 2, none, .take false (.t 9 [])⟩] [1, 3, 4, 5, 6, 7, 8, 9])
  .ret))),
  [(2, none)], [(false, .deep)]⟩

def a_spec_l6Text : AFunc := ⟨[true], 72,
  (.pre [.kill [1, 2, 3, 4, 5, 6, 7, 8, 9, 10, 11, 12, 13, 14, 15, 16, 17, 18, 19, 20, 21, 22, 23, 24, 25, 26, 27, 28, 29, 30, 31, 32, 33, 34, 35, 36, 37, 38, 39, 40, 41, 42, 43, 44, 45, 46, 47, 48, 49, 50, 51, 52, 53, 54, 55, 56, 57, 58, 59, 60, 61, 62, 63, 64, 65, 66, 67, 68, 69, 70, 71]] (.seq (.region [⟨some 1, none, .box false (.t 0 [])⟩,
    ⟨some 2, none, .take false (.c (.str ⟨#[]⟩))⟩] [0, 2])
  (.seq (.region [⟨some 6, none, .mkSl .deep 1 [S0] 0 []⟩,
    ⟨some 3, none, .take false (.t 6 [])⟩] [6])
  (.seq (.seq (.region [⟨some 4, none, .take false (.c (I 0))⟩] [])
   (.block 0 (.pre [.kill [5, 7, 8, 9, 10, 11, 12, 13, 14, 15, 16, 17, 18, 19, 20, 21, 22, 23, 24, 25, 26, 27, 28, 29, 30, 31, 32, 33, 34]] (.loop (.seq (.seq (.region [⟨some 7, none, .mv false (.t 4 [])⟩,
        ⟨some 8, none, .faddr 4 (.t 1 [])⟩,
        ⟨some 9, none, .load none (.t 8 [1])⟩,
        ⟨some 10, none, .len (.t 9 [])⟩,
        ⟨some 11, none, .bin .lss (.t 7 []) (.t 10 [])⟩] [7, 8, 9, 10])
      (.cond (.t 11 [])
       (.pre [.kill [11]] .skip)
       (.pre [.kill [4, 11]] (.exit 0))))
     (.seq (.block 1 (.seq (.region [⟨some 14, none, .faddr 4 (.t 1 [])⟩,
         ⟨some 15, none, .load none (.t 14 [1])⟩,
         ⟨some 16, none, .mv false (.t 4 [])⟩,
         ⟨some 17, none, .iaddr 5 (.t 15 []) (.t 16 [])⟩,
         ⟨some 18, none, .load (some 5) (.t 17 [])⟩,
         ⟨some 19, none, .call 235 [(.t 18 [])]⟩,
         ⟨some 5, none, .take false (.t 19 [])⟩] [14, 15, 16, 17, 18, 19])
       (.seq (.seq (.region [⟨some 20, none, .faddr 0 (.t 1 [])⟩,
          ⟨some 21, none, .load none (.t 20 [1])⟩,
          ⟨some 22, none, .bin .eql (.t 21 []) (.c (I 3))⟩] [20, 21])
        (.cond (.t 22 [])
         (.pre [.kill [22]] (.region [⟨some 23, none, .faddr 3 (.t 1 [])⟩,
          ⟨some 24, none, .load none (.t 23 [1])⟩,
          ⟨some 25, none, .mv false (.t 4 [])⟩,
          ⟨some 26, none, .iaddr 1 (.t 24 []) (.t 25 [])⟩,
          ⟨some 27, none, .load none (.t 26 [])⟩,
          ⟨some 28, none, .bin .add (.t 27 []) (.c (.str ⟨#[61]⟩))⟩,
          ⟨some 29, none, .mv false (.t 5 [])⟩,
          ⟨some 30, none, .bin .add (.t 28 []) (.t 29 [])⟩,
          ⟨some 5, none, .take false (.t 30 [])⟩] [23, 24, 25, 26, 27, 28, 29, 30]))
         (.pre [.kill [22]] .skip)))
       (.region [⟨some 31, none, .mv false (.t 3 [])⟩,
        ⟨some 32, none, .mv false (.t 5 [])⟩,
        ⟨some 33, none, .mkSl .deep 1 [S0] 1 [(0, (.t 32 []))]⟩,
        ⟨some 34, none, .append .deep 1 16 (.t 31 [3]) (.t 33 [])⟩,
        ⟨some 3, none, .take true (.t 34 [])⟩] [5, 31, 32, 33, 34]))))
     (.region [⟨some 12, none, .mv false (.t 4 [])⟩,
      ⟨some 13, none, .bin .add (.t 12 []) (.c (I 1))⟩,
      ⟨some 4, none, .take false (.t 13 [])⟩] [12, 13])))))))
  (.seq (.seq (.region [⟨some 35, none, .faddr 0 (.t 1 [])⟩,
     ⟨some 36, none, .load none (.t 35 [1])⟩] [35])
   (.block 2 (.seq (.region [⟨some 38, none, .bin .eql (.t 36 []) (.c (I 1))⟩,
      ⟨some 37, none, .take false (.t 38 [])⟩] [38])
    (.cond (.t 37 [])
     (.pre [.kill [3, 36, 37]] (.seq (.region [⟨some 39, none, .faddr 1 (.t 1 [])⟩,
       ⟨some 40, none, .load none (.t 39 [1])⟩,
       ⟨some 41, none, .call 69 [(.t 40 [])]⟩,
       ⟨some 2, none, .take false (.t 41 [])⟩] [1, 40, 41])
     .ret))
     (.pre [.kill [37]] (.seq (.region [⟨some 43, none, .bin .eql (.t 36 []) (.c (I 2))⟩,
       ⟨some 42, none, .take false (.t 43 [])⟩] [43])
     (.cond (.t 42 [])
      (.pre [.kill [3, 36, 42]] (.seq (.region [⟨some 44, none, .faddr 1 (.t 1 [])⟩,
        ⟨some 45, none, .load none (.t 44 [1])⟩,
        ⟨some 46, none, .faddr 1 (.t 1 [])⟩,
        ⟨some 47, none, .load none (.t 46 [1])⟩,
        ⟨some 48, none, .bin .add (.t 47 []) (.c (I 1))⟩,
        ⟨some 49, none, .sliceS (.c (.str ⟨#[102, 116]⟩)) (some (.t 45 [])) (some (.t 48 []))⟩,
        ⟨some 50, none, .bin .add (.c (.str ⟨#[35]⟩)) (.t 49 [])⟩,
        ⟨some 2, none, .take false (.t 50 [])⟩] [1, 45, 47, 48, 49, 50])
      .ret))
      (.pre [.kill [42]] (.seq (.region [⟨some 52, none, .bin .eql (.t 36 []) (.c (I 3))⟩,
        ⟨some 51, none, .take false (.t 52 [])⟩] [52])
      (.cond (.t 51 [])
       (.pre [.kill [1, 36, 51]] (.seq (.region [⟨some 53, none, .mv false (.t 3 [])⟩,
         ⟨some 54, none, .call 243 [(.t 53 [3]), (.c (.str ⟨#[44]⟩))]⟩,
         ⟨some 55, none, .bin .add (.c (.str ⟨#[123]⟩)) (.t 54 [])⟩,
         ⟨some 56, none, .bin .add (.t 55 []) (.c (.str ⟨#[125]⟩))⟩,
         ⟨some 2, none, .take false (.t 56 [])⟩] [3, 53, 54, 55, 56])
       .ret))
       (.pre [.kill [51]] (.seq (.region [⟨some 58, none, .bin .eql (.t 36 []) (.c (I 4))⟩,
         ⟨some 57, none, .take false (.t 58 [])⟩] [36, 58])
       (.cond (.t 57 [])
        (.pre [.kill [57]] (.seq (.region [⟨some 59, none, .faddr 2 (.t 1 [])⟩,
          ⟨some 60, none, .load none (.t 59 [1])⟩,
          ⟨some 61, none, .bin .add (.c (.str ⟨#[60]⟩)) (.t 60 [])⟩,
          ⟨some 62, none, .bin .add (.t 61 []) (.c (.str ⟨#[32]⟩))⟩,
          ⟨some 63, none, .mv false (.t 3 [])⟩,
          ⟨some 64, none, .iaddr 1 (.t 63 [3]) (.c (I 0))⟩,
          ⟨some 65, none, .load none (.t 64 [3])⟩,
          ⟨some 66, none, .bin .add (.t 62 []) (.t 65 [])⟩,
          ⟨some 67, none, .bin .add (.t 66 []) (.c (.str ⟨#[62]⟩))⟩,
          ⟨some 2, none, .take false (.t 67 [])⟩] [1, 3, 60, 61, 62, 63, 65, 66, 67])
        .ret))
        (.pre [.kill [1, 57]] .skip))))))))))))))
  (.seq (.region [⟨some 68, none, .mv false (.t 3 [])⟩,
    ⟨some 69, none, .call 243 [(.t 68 [3]), (.c (.str ⟨#[44]⟩))]⟩,
    ⟨some 70, none, .bin .add (.c (.str ⟨#[91]⟩)) (.t 69 [])⟩,
    ⟨some 71, none, .bin .add (.t 70 []) (.c (.str ⟨#[93]⟩))⟩,
    ⟨some 2, none, .take false (.t 71 [])⟩] [3, 68, 69, 70, 71])
  .ret)))))),
  [(2, none)], [(false, .deep)]⟩

def a_impl_IsPath : AFunc := ⟨[false], 44,
  (.pre [.kill [1, 2, 3, 4, 5, 6, 7, 8, 9, 10, 11, 12, 13, 14, 15, 16, 17, 18, 19, 20, 21, 22, 23, 24, 25, 26, 27, 28, 29, 30, 31, 32, 33, 34, 35, 36, 37, 38, 39, 40, 41, 42, 43]] (.seq (.region [⟨some 2, none, .take false (.c (.bool false))⟩] [2])
  (.seq (.seq (.region [⟨some 5, none, .mv false (.t 0 [])⟩,
     ⟨some 6, none, .len (.t 5 [])⟩,
     ⟨some 7, none, .bin .gtr (.t 6 []) (.c (I 12))⟩] [5, 6])
   (.cond (.t 7 [])
    (.pre [.kill [0, 7]] (.seq (.region [⟨some 2, none, .take false (.c (.bool false))⟩] [])
    .ret))
    (.pre [.kill [7]] .skip)))
  (.seq (.seq (.region [⟨some 8, none, .mv false (.t 0 [])⟩,
     ⟨some 9, none, .len (.t 8 [])⟩,
     ⟨some 10, none, .take false (.c (I 0))⟩] [0])
   (.block 0 (.pre [.kill [2, 4, 11, 12, 13, 14, 15, 16, 17, 18, 19, 20, 21, 22, 23, 24, 25, 26, 27, 28, 29, 30, 31, 32, 33, 34, 35, 36, 37, 38, 39, 40, 41, 42, 43]] (.loop (.seq (.region [⟨some 11, none, .bin .lss (.t 10 []) (.t 9 [])⟩] [])
     (.seq (.cond (.t 11 [])
       (.pre [.kill [11]] .skip)
       (.pre [.kill [8, 9, 10, 11]] (.exit 0)))
     (.seq (.block 1 (.seq (.region [⟨some 12, none, .iaddr 3 (.t 8 []) (.t 10 [])⟩,
         ⟨some 13, none, .load (some 3) (.t 12 [])⟩,
         ⟨some 4, none, .alloc false [I0, S0, I0] [.deep, .deep, .deep]⟩,
         ⟨none, none, .store 3 (.t 4 [4]) (.t 13 [])⟩] [12, 13])
       (.seq (.region [⟨some 14, none, .faddr 0 (.t 4 [])⟩,
         ⟨some 15, none, .load none (.t 14 [4])⟩] [14])
       (.block 2 (.seq (.seq (.region [⟨some 17, none, .bin .eql (.t 15 []) (.c (I 1))⟩,
           ⟨some 16, none, .take false (.t 17 [])⟩] [17])
         (.cond (.t 16 [])
          .skip
          (.pre [.kill [16]] (.region [⟨some 18, none, .bin .eql (.t 15 []) (.c (I 2))⟩,
           ⟨some 16, none, .take false (.t 18 [])⟩] [18]))))
        (.cond (.t 16 [])
         (.pre [.kill [15, 16]] (.seq (.region [⟨some 19, none, .faddr 1 (.t 4 [])⟩,
           ⟨some 20, none, .load none (.t 19 [4])⟩,
           ⟨some 21, none, .call 64 [(.t 20 [])]⟩,
           ⟨some 22, none, .un .not (.t 21 [])⟩,
           ⟨some 23, none, .mv false (.t 22 [])⟩,
           ⟨some 24, some (23, false), .faddr 2 (.t 4 [])⟩,
           ⟨some 25, some (23, false), .load none (.t 24 [4])⟩,
           ⟨some 26, some (23, false), .bin .neq (.t 25 []) (.c (I 0))⟩,
           ⟨some 27, none, .pick (.t 23 []) (.c (.bool true)) (.t 26 [])⟩] [4, 20, 21, 22, 23, 24, 25, 26])
         (.cond (.t 27 [])
          (.pre [.kill [8, 9, 10, 27]] (.seq (.region [⟨some 2, none, .take false (.c (.bool false))⟩] [])
          .ret))
          (.pre [.kill [27]] .skip))))
         (.pre [.kill [16]] (.seq (.region [⟨some 29, none, .bin .eql (.t 15 []) (.c (I 3))⟩,
           ⟨some 28, none, .take false (.t 29 [])⟩] [15, 29])
         (.cond (.t 28 [])
          (.pre [.kill [28]] (.seq (.region [⟨some 30, none, .faddr 1 (.t 4 [])⟩,
            ⟨some 31, none, .load none (.t 30 [4])⟩,
            ⟨some 32, none, .bin .neq (.t 31 []) (.c (.str ⟨#[]⟩))⟩,
            ⟨some 33, none, .mv false (.t 32 [])⟩,
            ⟨some 34, some (33, false), .faddr 2 (.t 4 [])⟩,
            ⟨some 35, some (33, false), .load none (.t 34 [4])⟩,
            ⟨some 36, some (33, false), .bin .lss (.t 35 []) (.c (I 0))⟩,
            ⟨some 37, none, .pick (.t 33 []) (.c (.bool true)) (.t 36 [])⟩,
            ⟨some 38, none, .mv false (.t 37 [])⟩,
            ⟨some 39, some (38, false), .faddr 2 (.t 4 [])⟩,
            ⟨some 40, some (38, false), .load none (.t 39 [4])⟩,
            ⟨some 41, some (38, false), .bin .gtr (.t 40 []) (.c (I 1000))⟩,
            ⟨some 42, none, .pick (.t 38 []) (.c (.bool true)) (.t 41 [])⟩] [4, 31, 32, 33, 34, 35, 36, 37, 38, 39, 40, 41])
          (.cond (.t 42 [])
           (.pre [.kill [8, 9, 10, 42]] (.seq (.region [⟨some 2, none, .take false (.c (.bool false))⟩] [])
           .ret))
           (.pre [.kill [42]] .skip))))
          (.pre [.kill [4, 8, 9, 10, 28]] (.seq (.region [⟨some 2, none, .take false (.c (.bool false))⟩] [])
          .ret)))))))))))
     (.region [⟨some 43, none, .bin .add (.t 10 []) (.c (I 1))⟩,
      ⟨some 10, none, .mv false (.t 43 [])⟩] [43]))))))))
  (.seq (.region [⟨some 2, none, .take false (.c (.bool true))⟩] [])
  .ret))))),
  [(2, none)], [(false, .deep)]⟩

def a_impl_IsValue : AFunc := ⟨[true], 10,
  (.pre [.kill [1, 2, 3, 4, 5, 6, 7, 8, 9]] (.seq (.region [⟨some 1, none, .box false (.t 0 [])⟩,
    ⟨some 2, none, .take false (.c (.bool false))⟩] [0, 2])
  (.seq (.region [⟨some 3, none, .load (some 5) (.t 1 [1])⟩,
    ⟨some 4, none, .call 74 [(.t 3 [])]⟩,
    ⟨some 5, none, .bin .leq (.t 4 []) (.c (I 300))⟩,
    ⟨some 6, none, .mv false (.t 5 [])⟩,
    ⟨some 7, some (6, true), .load (some 5) (.t 1 [1])⟩,
    ⟨some 8, some (6, true), .call 216 [(.t 7 [])]⟩,
    ⟨some 9, none, .pick (.t 6 []) (.t 8 []) (.c (.bool false))⟩,
    ⟨some 2, none, .take false (.t 9 [])⟩] [1, 3, 4, 5, 6, 7, 8, 9])
  .ret))),
  [(2, none)], [(false, .deep)]⟩

def a_impl_valueText : AFunc := ⟨[true], 70,
  (.pre [.kill [1, 2, 3, 4, 5, 6, 7, 8, 9, 10, 11, 12, 13, 14, 15, 16, 17, 18, 19, 20, 21, 22, 23, 24, 25, 26, 27, 28, 29, 30, 31, 32, 33, 34, 35, 36, 37, 38, 39, 40, 41, 42, 43, 44, 45, 46, 47, 48, 49, 50, 51, 52, 53, 54, 55, 56, 57, 58, 59, 60, 61, 62, 63, 64, 65, 66, 67, 68, 69]] (.seq (.region [⟨some 1, none, .box false (.t 0 [])⟩,
    ⟨some 2, none, .take false (.c (.str ⟨#[]⟩))⟩] [0, 2])
  (.seq (.seq (.region [⟨some 7, none, .faddr 0 (.t 1 [])⟩,
     ⟨some 8, none, .load none (.t 7 [1])⟩] [7])
   (.block 0 (.seq (.region [⟨some 10, none, .bin .eql (.t 8 []) (.c (I 1))⟩,
      ⟨some 9, none, .take false (.t 10 [])⟩] [10])
    (.cond (.t 9 [])
     (.pre [.kill [8, 9]] (.seq (.region [⟨some 11, none, .faddr 1 (.t 1 [])⟩,
       ⟨some 12, none, .load none (.t 11 [1])⟩,
       ⟨some 13, none, .call 70 [(.t 12 [])]⟩,
       ⟨some 2, none, .take false (.t 13 [])⟩] [1, 12, 13])
     .ret))
     (.pre [.kill [9]] (.seq (.region [⟨some 15, none, .bin .eql (.t 8 []) (.c (I 2))⟩,
       ⟨some 14, none, .take false (.t 15 [])⟩] [15])
     (.cond (.t 14 [])
      (.pre [.kill [8, 14]] (.seq (.seq (.region [⟨some 16, none, .faddr 1 (.t 1 [])⟩,
         ⟨some 17, none, .load none (.t 16 [1])⟩,
         ⟨some 18, none, .bin .eql (.t 17 []) (.c (I 1))⟩] [1, 17])
       (.cond (.t 18 [])
        (.pre [.kill [18]] (.seq (.region [⟨some 2, none, .take false (.c (.str ⟨#[35, 116]⟩))⟩] [])
        .ret))
        (.pre [.kill [18]] .skip)))
      (.seq (.region [⟨some 2, none, .take false (.c (.str ⟨#[35, 102]⟩))⟩] [])
      .ret)))
      (.pre [.kill [14]] (.seq (.region [⟨some 20, none, .bin .eql (.t 8 []) (.c (I 4))⟩,
        ⟨some 19, none, .take false (.t 20 [])⟩] [8, 20])
      (.cond (.t 19 [])
       (.pre [.kill [19]] (.seq (.region [⟨some 21, none, .faddr 2 (.t 1 [])⟩,
         ⟨some 22, none, .load none (.t 21 [1])⟩,
         ⟨some 23, none, .bin .add (.c (.str ⟨#[60]⟩)) (.t 22 [])⟩,
         ⟨some 24, none, .bin .add (.t 23 []) (.c (.str ⟨#[32]⟩))⟩,
         ⟨some 25, none, .faddr 4 (.t 1 [])⟩,
         ⟨some 26, none, .load none (.t 25 [1])⟩,
         ⟨some 27, none, .iaddr 5 (.t 26 []) (.c (I 0))⟩,
         ⟨some 28, none, .load (some 5) (.t 27 [])⟩,
         ⟨some 29, none, .call 236 [(.t 28 [])]⟩,
         ⟨some 30, none, .bin .add (.t 24 []) (.t 29 [])⟩,
         ⟨some 31, none, .bin .add (.t 30 []) (.c (.str ⟨#[62]⟩))⟩,
         ⟨some 2, none, .take false (.t 31 [])⟩] [1, 22, 23, 24, 26, 27, 28, 29, 30, 31])
       .ret))
       (.pre [.kill [19]] .skip)))))))))))
  (.seq (.region [⟨some 32, none, .mkSl .deep 1 [S0] 0 []⟩,
    ⟨some 3, none, .take false (.t 32 [])⟩] [32])
  (.seq (.seq (.region [⟨some 33, none, .faddr 4 (.t 1 [])⟩,
     ⟨some 34, none, .load none (.t 33 [1])⟩,
     ⟨some 35, none, .len (.t 34 [])⟩,
     ⟨some 36, none, .take false (.c (I 0))⟩] [33])
   (.block 1 (.pre [.kill [4, 5, 6, 37, 38, 39, 40, 41, 42, 43, 44, 45, 46, 47, 48, 49, 50, 51, 52, 53, 54, 55, 56, 57, 58]] (.loop (.seq (.region [⟨some 37, none, .bin .lss (.t 36 []) (.t 35 [])⟩] [])
     (.seq (.cond (.t 37 [])
       (.pre [.kill [37]] .skip)
       (.pre [.kill [34, 35, 36, 37]] (.exit 1)))
     (.seq (.block 2 (.seq (.region [⟨some 38, none, .mv false (.t 36 [])⟩,
         ⟨some 39, none, .iaddr 5 (.t 34 []) (.t 36 [])⟩,
         ⟨some 40, none, .load (some 5) (.t 39 [])⟩,
         ⟨some 5, none, .alloc false [I0, I0, S0, (Z 1), (Z 5)] [.deep, .deep, .deep, .deep, .deep]⟩,
         ⟨some 4, none, .take false (.t 38 [])⟩,
         ⟨none, none, .store 5 (.t 5 [5]) (.t 40 [])⟩] [38, 39, 40])
       (.seq (.region [⟨some 41, none, .load (some 5) (.t 5 [5])⟩,
         ⟨some 42, none, .call 236 [(.t 41 [])]⟩,
         ⟨some 6, none, .take false (.t 42 [])⟩] [5, 41, 42])
       (.seq (.seq (.region [⟨some 43, none, .faddr 0 (.t 1 [])⟩,
          ⟨some 44, none, .load none (.t 43 [1])⟩,
          ⟨some 45, none, .bin .eql (.t 44 []) (.c (I 3))⟩] [43, 44])
        (.cond (.t 45 [])
         (.pre [.kill [45]] (.region [⟨some 46, none, .faddr 3 (.t 1 [])⟩,
          ⟨some 47, none, .load none (.t 46 [1])⟩,
          ⟨some 48, none, .mv false (.t 4 [])⟩,
          ⟨some 49, none, .iaddr 1 (.t 47 []) (.t 48 [])⟩,
          ⟨some 50, none, .load none (.t 49 [])⟩,
          ⟨some 51, none, .bin .add (.t 50 []) (.c (.str ⟨#[61]⟩))⟩,
          ⟨some 52, none, .mv false (.t 6 [])⟩,
          ⟨some 53, none, .bin .add (.t 51 []) (.t 52 [])⟩,
          ⟨some 6, none, .take false (.t 53 [])⟩] [4, 46, 47, 48, 49, 50, 51, 52, 53]))
         (.pre [.kill [4, 45]] .skip)))
       (.region [⟨some 54, none, .mv false (.t 3 [])⟩,
        ⟨some 55, none, .mv false (.t 6 [])⟩,
        ⟨some 56, none, .mkSl .deep 1 [S0] 1 [(0, (.t 55 []))]⟩,
        ⟨some 57, none, .append .deep 1 16 (.t 54 [3]) (.t 56 [])⟩,
        ⟨some 3, none, .take true (.t 57 [])⟩] [6, 54, 55, 56, 57])))))
     (.region [⟨some 58, none, .bin .add (.t 36 []) (.c (I 1))⟩,
      ⟨some 36, none, .mv false (.t 58 [])⟩] [58]))))))))
  (.seq (.seq (.region [⟨some 59, none, .faddr 0 (.t 1 [])⟩,
     ⟨some 60, none, .load none (.t 59 [1])⟩,
     ⟨some 61, none, .bin .eql (.t 60 []) (.c (I 3))⟩] [1, 60])
   (.cond (.t 61 [])
    (.pre [.kill [61]] (.seq (.region [⟨some 62, none, .mv false (.t 3 [])⟩,
      ⟨some 63, none, .call 244 [(.t 62 [3]), (.c (.str ⟨#[44]⟩))]⟩,
      ⟨some 64, none, .bin .add (.c (.str ⟨#[123]⟩)) (.t 63 [])⟩,
      ⟨some 65, none, .bin .add (.t 64 []) (.c (.str ⟨#[125]⟩))⟩,
      ⟨some 2, none, .take false (.t 65 [])⟩] [3, 62, 63, 64, 65])
    .ret))
    (.pre [.kill [61]] .skip)))
  (.seq (.region [⟨some 66, none, .mv false (.t 3 [])⟩,
    ⟨some 67, none, .call 244 [(.t 66 [3]), (.c (.str ⟨#[44]⟩))]⟩,
    ⟨some 68, none, .bin .add (.c (.str ⟨#[91]⟩)) (.t 67 [])⟩,
    ⟨some 69, none, .bin .add (.t 68 []) (.c (.str ⟨#[93]⟩))⟩,
    ⟨some 2, none, .take false (.t 69 [])⟩] [3, 66, 67, 68, 69])
  .ret))))))),
  [(2, none)], [(false, .deep)]⟩

def a_impl_digitsOf : AFunc := ⟨[false], 20,
  (.pre [.kill [1, 2, 3, 4, 5, 6, 7, 8, 9, 10, 11, 12, 13, 14, 15, 16, 17, 18, 19]] (.seq (.region [⟨some 2, none, .take false (.c (.str ⟨#[]⟩))⟩] [2])
  (.seq (.seq (.region [⟨some 3, none, .mv false (.t 0 [])⟩,
     ⟨some 4, none, .bin .lss (.t 3 []) (.c (.int .u64 10))⟩] [3])
   (.cond (.t 4 [])
    (.pre [.kill [4]] (.seq (.region [⟨some 5, none, .mv false (.t 0 [])⟩,
      ⟨some 6, none, .bin .add (.c (.int .u64 48)) (.t 5 [])⟩,
      ⟨some 7, none, .convInt .u8 (.t 6 [])⟩,
      ⟨some 8, none, .mkSl .deep 1 [(.int .u8 0)] 1 [(0, (.t 7 []))]⟩,
      ⟨some 9, none, .bytesStr (.t 8 [])⟩,
      ⟨some 2, none, .take false (.t 9 [])⟩] [0, 5, 6, 7, 8, 9])
    .ret))
    (.pre [.kill [4]] .skip)))
  (.seq (.region [⟨some 10, none, .mv false (.t 0 [])⟩,
    ⟨some 11, none, .bin .quo (.t 10 []) (.c (.int .u64 10))⟩,
    ⟨some 12, none, .call 96 [(.t 11 [])]⟩,
    ⟨some 13, none, .mv false (.t 0 [])⟩,
    ⟨some 14, none, .bin .rem (.t 13 []) (.c (.int .u64 10))⟩,
    ⟨some 15, none, .bin .add (.c (.int .u64 48)) (.t 14 [])⟩,
    ⟨some 16, none, .convInt .u8 (.t 15 [])⟩,
    ⟨some 17, none, .mkSl .deep 1 [(.int .u8 0)] 1 [(0, (.t 16 []))]⟩,
    ⟨some 18, none, .bytesStr (.t 17 [])⟩,
    ⟨some 19, none, .bin .add (.t 12 []) (.t 18 [])⟩,
    ⟨some 2, none, .take false (.t 19 [])⟩] [0, 10, 11, 12, 13, 14, 15, 16, 17, 18, 19])
  .ret)))),
  [(2, none)], [(false, .deep)]⟩

def a_laws_eqStep : AFunc := ⟨[true, true], 20,
  (.pre [.kill [2, 3, 4, 5, 6, 7, 8, 9, 10, 11, 12, 13, 14, 15, 16, 17, 18, 19]] (.seq (.region [⟨some 2, none, .box false (.t 0 [])⟩,
    ⟨some 3, none, .box false (.t 1 [])⟩,
    ⟨some 4, none, .take false (.c (.bool false))⟩] [0, 1, 4])
  (.seq (.seq (.region [⟨some 5, none, .faddr 0 (.t 2 [])⟩,
     ⟨some 6, none, .load none (.t 5 [2])⟩,
     ⟨some 7, none, .faddr 0 (.t 3 [])⟩,
     ⟨some 8, none, .load none (.t 7 [3])⟩,
     ⟨some 9, none, .bin .neq (.t 6 []) (.t 8 [])⟩] [5, 6, 7, 8])
   (.cond (.t 9 [])
    (.pre [.kill [2, 3, 9]] (.seq (.region [⟨some 4, none, .take false (.c (.bool false))⟩] [])
    .ret))
    (.pre [.kill [9]] .skip)))
  (.seq (.seq (.region [⟨some 10, none, .faddr 1 (.t 2 [])⟩,
     ⟨some 11, none, .load none (.t 10 [2])⟩,
     ⟨some 12, none, .faddr 1 (.t 3 [])⟩,
     ⟨some 13, none, .load none (.t 12 [3])⟩,
     ⟨some 14, none, .bin .neq (.t 11 []) (.t 13 [])⟩] [10, 11, 12, 13])
   (.cond (.t 14 [])
    (.pre [.kill [2, 3, 14]] (.seq (.region [⟨some 4, none, .take false (.c (.bool false))⟩] [])
    .ret))
    (.pre [.kill [14]] .skip)))
  (.seq (.seq (.region [⟨some 15, none, .faddr 2 (.t 2 [])⟩,
     ⟨some 16, none, .load none (.t 15 [2])⟩,
     ⟨some 17, none, .faddr 2 (.t 3 [])⟩,
     ⟨some 18, none, .load none (.t 17 [3])⟩,
     ⟨some 19, none, .bin .neq (.t 16 []) (.t 18 [])⟩] [2, 3, 16, 18])
   (.cond (.t 19 [])
    (.pre [.kill [19]] (.seq (.region [⟨some 4, none, .take false (.c (.bool false))⟩] [])
    .ret))
    (.pre [.kill [19]] .skip)))
  (.seq (.region [⟨some 4, none, .take false (.c (.bool true))⟩] [])
  .ret)))))),
  [(4, none)], [(false, .deep)]⟩

def a_laws_eqStringS : AFunc := ⟨[false, false], 26,
  (.pre [.kill [2, 3, 4, 5, 6, 7, 8, 9, 10, 11, 12, 13, 14, 15, 16, 17, 18, 19, 20, 21, 22, 23, 24, 25]] (.seq (.region [⟨some 4, none, .take false (.c (.bool false))⟩] [4])
  (.seq (.seq (.region [⟨some 6, none, .mv false (.t 0 [])⟩,
     ⟨some 7, none, .len (.t 6 [])⟩,
     ⟨some 8, none, .mv false (.t 1 [])⟩,
     ⟨some 9, none, .len (.t 8 [])⟩,
     ⟨some 10, none, .bin .neq (.t 7 []) (.t 9 [])⟩] [6, 7, 8, 9])
   (.cond (.t 10 [])
    (.pre [.kill [0, 1, 10]] (.seq (.region [⟨some 4, none, .take false (.c (.bool false))⟩] [])
    .ret))
    (.pre [.kill [10]] .skip)))
  (.seq (.seq (.region [⟨some 5, none, .take false (.c (I 0))⟩] [])
   (.block 0 (.pre [.kill [4, 11, 12, 13, 14, 15, 16, 17, 18, 19, 20, 21, 22, 23, 24, 25]] (.loop (.seq (.seq (.region [⟨some 11, none, .mv false (.t 5 [])⟩,
        ⟨some 12, none, .mv false (.t 0 [])⟩,
        ⟨some 13, none, .len (.t 12 [])⟩,
        ⟨some 14, none, .bin .lss (.t 11 []) (.t 13 [])⟩] [11, 12, 13])
      (.cond (.t 14 [])
       (.pre [.kill [14]] .skip)
       (.pre [.kill [0, 1, 5, 14]] (.exit 0))))
     (.seq (.block 1 (.seq (.region [⟨some 17, none, .mv false (.t 0 [])⟩,
         ⟨some 18, none, .mv false (.t 5 [])⟩,
         ⟨some 19, none, .iaddr 1 (.t 17 []) (.t 18 [])⟩,
         ⟨some 20, none, .load none (.t 19 [])⟩,
         ⟨some 21, none, .mv false (.t 1 [])⟩,
         ⟨some 22, none, .mv false (.t 5 [])⟩,
         ⟨some 23, none, .iaddr 1 (.t 21 []) (.t 22 [])⟩,
         ⟨some 24, none, .load none (.t 23 [])⟩,
         ⟨some 25, none, .bin .neq (.t 20 []) (.t 24 [])⟩] [17, 18, 19, 20, 21, 22, 23, 24])
       (.cond (.t 25 [])
        (.pre [.kill [0, 1, 5, 25]] (.seq (.region [⟨some 4, none, .take false (.c (.bool false))⟩] [])
        .ret))
        (.pre [.kill [25]] .skip))))
     (.region [⟨some 15, none, .mv false (.t 5 [])⟩,
      ⟨some 16, none, .bin .add (.t 15 []) (.c (I 1))⟩,
      ⟨some 5, none, .take false (.t 16 [])⟩] [15, 16])))))))
  (.seq (.region [⟨some 4, none, .take false (.c (.bool true))⟩] [])
  .ret))))),
  [(4, none)], [(false, .deep)]⟩

def a_laws_eqValueS : AFunc := ⟨[false, false], 27,
  (.pre [.kill [2, 3, 4, 5, 6, 7, 8, 9, 10, 11, 12, 13, 14, 15, 16, 17, 18, 19, 20, 21, 22, 23, 24, 25, 26]] (.seq (.region [⟨some 4, none, .take false (.c (.bool false))⟩] [4])
  (.seq (.seq (.region [⟨some 6, none, .mv false (.t 0 [])⟩,
     ⟨some 7, none, .len (.t 6 [])⟩,
     ⟨some 8, none, .mv false (.t 1 [])⟩,
     ⟨some 9, none, .len (.t 8 [])⟩,
     ⟨some 10, none, .bin .neq (.t 7 []) (.t 9 [])⟩] [6, 7, 8, 9])
   (.cond (.t 10 [])
    (.pre [.kill [0, 1, 10]] (.seq (.region [⟨some 4, none, .take false (.c (.bool false))⟩] [])
    .ret))
    (.pre [.kill [10]] .skip)))
  (.seq (.seq (.region [⟨some 5, none, .take false (.c (I 0))⟩] [])
   (.block 0 (.pre [.kill [4, 11, 12, 13, 14, 15, 16, 17, 18, 19, 20, 21, 22, 23, 24, 25, 26]] (.loop (.seq (.seq (.region [⟨some 11, none, .mv false (.t 5 [])⟩,
        ⟨some 12, none, .mv false (.t 0 [])⟩,
        ⟨some 13, none, .len (.t 12 [])⟩,
        ⟨some 14, none, .bin .lss (.t 11 []) (.t 13 [])⟩] [11, 12, 13])
      (.cond (.t 14 [])
       (.pre [.kill [14]] .skip)
       (.pre [.kill [0, 1, 5, 14]] (.exit 0))))
     (.seq (.block 1 (.seq (.region [⟨some 17, none, .mv false (.t 0 [])⟩,
         ⟨some 18, none, .mv false (.t 5 [])⟩,
         ⟨some 19, none, .iaddr 5 (.t 17 []) (.t 18 [])⟩,
         ⟨some 20, none, .load (some 5) (.t 19 [])⟩,
         ⟨some 21, none, .mv false (.t 1 [])⟩,
         ⟨some 22, none, .mv false (.t 5 [])⟩,
         ⟨some 23, none, .iaddr 5 (.t 21 []) (.t 22 [])⟩,
         ⟨some 24, none, .load (some 5) (.t 23 [])⟩,
         ⟨some 25, none, .call 81 [(.t 20 []), (.t 24 [])]⟩,
         ⟨some 26, none, .un .not (.t 25 [])⟩] [17, 18, 19, 20, 21, 22, 23, 24, 25])
       (.cond (.t 26 [])
        (.pre [.kill [0, 1, 5, 26]] (.seq (.region [⟨some 4, none, .take false (.c (.bool false))⟩] [])
        .ret))
        (.pre [.kill [26]] .skip))))
     (.region [⟨some 15, none, .mv false (.t 5 [])⟩,
      ⟨some 16, none, .bin .add (.t 15 []) (.c (I 1))⟩,
      ⟨some 5, none, .take false (.t 16 [])⟩] [15, 16])))))))
  (.seq (.region [⟨some 4, none, .take false (.c (.bool true))⟩] [])
  .ret))))),
  [(4, none)], [(false, .deep)]⟩

def a_spec_IsName : AFunc := ⟨[false], 42,
  (.pre [.kill [1, 2, 3, 4, 5, 6, 7, 8, 9, 10, 11, 12, 13, 14, 15, 16, 17, 18, 19, 20, 21, 22, 23, 24, 25, 26, 27, 28, 29, 30, 31, 32, 33, 34, 35, 36, 37, 38, 39, 40, 41]] (.seq (.region [⟨some 2, none, .take false (.c (.bool false))⟩] [2])
  (.seq (.seq (.region [⟨some 3, none, .take false (.c (I 0))⟩] [])
   (.block 0 (.pre [.kill [2, 4, 5, 6, 7, 8, 9, 10, 11, 12, 13, 14, 15, 16, 17, 18, 19, 20, 21, 22, 23, 24, 25, 26, 27, 28, 29, 30, 31, 32, 33, 34, 35, 36, 37, 38]] (.loop (.seq (.seq (.region [⟨some 5, none, .mv false (.t 3 [])⟩,
        ⟨some 6, none, .mv false (.t 0 [])⟩,
        ⟨some 7, none, .lenS (.t 6 [])⟩,
        ⟨some 8, none, .bin .lss (.t 5 []) (.t 7 [])⟩] [5, 6, 7])
      (.cond (.t 8 [])
       (.pre [.kill [8]] .skip)
       (.pre [.kill [3, 8]] (.exit 0))))
     (.seq (.block 1 (.seq (.region [⟨some 11, none, .mv false (.t 0 [])⟩,
         ⟨some 12, none, .mv false (.t 3 [])⟩,
         ⟨some 13, none, .index (.t 11 []) (.t 12 [])⟩,
         ⟨some 14, none, .bin .geq (.t 13 []) (.c (.int .u8 97))⟩,
         ⟨some 15, none, .mv false (.t 14 [])⟩,
         ⟨some 16, some (15, true), .mv false (.t 0 [])⟩,
         ⟨some 17, some (15, true), .mv false (.t 3 [])⟩,
         ⟨some 18, some (15, true), .index (.t 16 []) (.t 17 [])⟩,
         ⟨some 19, some (15, true), .bin .leq (.t 18 []) (.c (.int .u8 122))⟩,
         ⟨some 20, none, .pick (.t 15 []) (.t 19 []) (.c (.bool false))⟩,
         ⟨some 4, none, .take false (.t 20 [])⟩] [11, 12, 13, 14, 15, 16, 17, 18, 19, 20])
       (.seq (.region [⟨some 21, none, .mv false (.t 4 [])⟩,
         ⟨some 22, none, .un .not (.t 21 [])⟩,
         ⟨some 23, none, .mv false (.t 22 [])⟩,
         ⟨some 24, some (23, true), .mv false (.t 3 [])⟩,
         ⟨some 25, some (23, true), .bin .eql (.t 24 []) (.c (I 0))⟩,
         ⟨some 26, some (23, true), .mv false (.t 25 [])⟩,
         ⟨some 27, some (26, false), .mv false (.t 0 [])⟩,
         ⟨some 28, some (26, false), .mv false (.t 3 [])⟩,
         ⟨some 29, some (26, false), .index (.t 27 []) (.t 28 [])⟩,
         ⟨some 30, some (26, false), .bin .lss (.t 29 []) (.c (.int .u8 48))⟩,
         ⟨some 31, some (23, true), .pick (.t 26 []) (.c (.bool true)) (.t 30 [])⟩,
         ⟨some 32, some (23, true), .mv false (.t 31 [])⟩,
         ⟨some 33, some (32, false), .mv false (.t 0 [])⟩,
         ⟨some 34, some (32, false), .mv false (.t 3 [])⟩,
         ⟨some 35, some (32, false), .index (.t 33 []) (.t 34 [])⟩,
         ⟨some 36, some (32, false), .bin .gtr (.t 35 []) (.c (.int .u8 57))⟩,
         ⟨some 37, some (23, true), .pick (.t 32 []) (.c (.bool true)) (.t 36 [])⟩,
         ⟨some 38, none, .pick (.t 23 []) (.t 37 []) (.c (.bool false))⟩] [4, 21, 22, 23, 24, 25, 26, 27, 28, 29, 30, 31, 32, 33, 34, 35, 36, 37])
       (.cond (.t 38 [])
        (.pre [.kill [0, 3, 38]] (.seq (.region [⟨some 2, none, .take false (.c (.bool false))⟩] [])
        .ret))
        (.pre [.kill [38]] .skip)))))
     (.region [⟨some 9, none, .mv false (.t 3 [])⟩,
      ⟨some 10, none, .bin .add (.t 9 []) (.c (I 1))⟩,
      ⟨some 3, none, .take false (.t 10 [])⟩] [9, 10])))))))
  (.seq (.region [⟨some 39, none, .mv false (.t 0 [])⟩,
    ⟨some 40, none, .lenS (.t 39 [])⟩,
    ⟨some 41, none, .call 63 [(.t 40 []), (.c (I 1)), (.c (I 4))]⟩,
    ⟨some 2, none, .take false (.t 41 [])⟩] [0, 39, 40, 41])
  .ret)))),
  [(2, none)], [(false, .deep)]⟩

def a_spec_l1In : AFunc := ⟨[false, false, false], 15,
  (.pre [.kill [3, 4, 5, 6, 7, 8, 9, 10, 11, 12, 13, 14]] (.seq (.region [⟨some 6, none, .take false (.c (.bool false))⟩] [6])
  (.seq (.region [⟨some 7, none, .mv false (.t 0 [])⟩,
    ⟨some 8, none, .mv false (.t 1 [])⟩,
    ⟨some 9, none, .bin .geq (.t 7 []) (.t 8 [])⟩,
    ⟨some 10, none, .mv false (.t 9 [])⟩,
    ⟨some 11, some (10, true), .mv false (.t 0 [])⟩,
    ⟨some 12, some (10, true), .mv false (.t 2 [])⟩,
    ⟨some 13, some (10, true), .bin .leq (.t 11 []) (.t 12 [])⟩,
    ⟨some 14, none, .pick (.t 10 []) (.t 13 []) (.c (.bool false))⟩,
    ⟨some 6, none, .take false (.t 14 [])⟩] [0, 1, 2, 7, 8, 9, 10, 11, 12, 13, 14])
  .ret))),
  [(6, none)], [(false, .deep)]⟩

def a_spec_l5Left : AFunc := ⟨[true, false], 27,
  (.pre [.kill [2, 3, 4, 5, 6, 7, 8, 9, 10, 11, 12, 13, 14, 15, 16, 17, 18, 19, 20, 21, 22, 23, 24, 25, 26]] (.seq (.region [⟨some 2, none, .box false (.t 0 [])⟩,
    ⟨some 4, none, .take false (.c (I 0))⟩] [0, 4])
  (.seq (.region [⟨some 6, none, .mv false (.t 1 [])⟩,
    ⟨some 7, none, .bin .sub (.t 6 []) (.c (I 1))⟩,
    ⟨some 1, none, .take false (.t 7 [])⟩] [6, 7])
  (.seq (.seq (.region [⟨some 5, none, .take false (.c (I 0))⟩] [])
   (.block 0 (.pre [.kill [8, 9, 10, 11, 12, 13, 14, 15, 16, 17, 18, 19, 20, 21, 22, 23, 24, 25]] (.loop (.seq (.seq (.region [⟨some 8, none, .mv false (.t 5 [])⟩,
        ⟨some 9, none, .faddr 4 (.t 2 [])⟩,
        ⟨some 10, none, .load none (.t 9 [2])⟩,
        ⟨some 11, none, .len (.t 10 [])⟩,
        ⟨some 12, none, .bin .lss (.t 8 []) (.t 11 [])⟩,
        ⟨some 13, none, .mv false (.t 12 [])⟩,
        ⟨some 14, some (13, true), .mv false (.t 1 [])⟩,
        ⟨some 15, some (13, true), .bin .geq (.t 14 []) (.c (I 0))⟩,
        ⟨some 16, none, .pick (.t 13 []) (.t 15 []) (.c (.bool false))⟩] [8, 9, 10, 11, 12, 13, 14, 15])
      (.cond (.t 16 [])
       (.pre [.kill [16]] .skip)
       (.pre [.kill [2, 5, 16]] (.exit 0))))
     (.seq (.block 1 (.region [⟨some 19, none, .faddr 4 (.t 2 [])⟩,
        ⟨some 20, none, .load none (.t 19 [2])⟩,
        ⟨some 21, none, .mv false (.t 5 [])⟩,
        ⟨some 22, none, .iaddr 5 (.t 20 []) (.t 21 [])⟩,
        ⟨some 23, none, .load (some 5) (.t 22 [])⟩,
        ⟨some 24, none, .mv false (.t 1 [])⟩,
        ⟨some 25, none, .call 212 [(.t 23 []), (.t 24 [])]⟩,
        ⟨some 1, none, .take false (.t 25 [])⟩] [19, 20, 21, 22, 23, 24, 25]))
     (.region [⟨some 17, none, .mv false (.t 5 [])⟩,
      ⟨some 18, none, .bin .add (.t 17 []) (.c (I 1))⟩,
      ⟨some 5, none, .take false (.t 18 [])⟩] [17, 18])))))))
  (.seq (.region [⟨some 26, none, .mv false (.t 1 [])⟩,
    ⟨some 4, none, .take false (.t 26 [])⟩] [1, 26])
  .ret))))),
  [(4, none)], [(false, .deep)]⟩

def a_spec_l5Form : AFunc := ⟨[true], 101,
  (.pre [.kill [1, 2, 3, 4, 5, 6, 7, 8, 9, 10, 11, 12, 13, 14, 15, 16, 17, 18, 19, 20, 21, 22, 23, 24, 25, 26, 27, 28, 29, 30, 31, 32, 33, 34, 35, 36, 37, 38, 39, 40, 41, 42, 43, 44, 45, 46, 47, 48, 49, 50, 51, 52, 53, 54, 55, 56, 57, 58, 59, 60, 61, 62, 63, 64, 65, 66, 67, 68, 69, 70, 71, 72, 73, 74, 75, 76, 77, 78, 79, 80, 81, 82, 83, 84, 85, 86, 87, 88, 89, 90, 91, 92, 93, 94, 95, 96, 97, 98, 99, 100]] (.seq (.region [⟨some 1, none, .box false (.t 0 [])⟩,
    ⟨some 2, none, .take false (.c (.bool false))⟩] [0, 2])
  (.seq (.seq (.region [⟨some 3, none, .take false (.c (I 0))⟩] [])
   (.block 0 (.pre [.kill [2, 5, 6, 7, 8, 9, 10, 11, 12, 13, 14, 15, 16, 17, 18]] (.loop (.seq (.seq (.region [⟨some 5, none, .mv false (.t 3 [])⟩,
        ⟨some 6, none, .faddr 4 (.t 1 [])⟩,
        ⟨some 7, none, .load none (.t 6 [1])⟩,
        ⟨some 8, none, .len (.t 7 [])⟩,
        ⟨some 9, none, .bin .lss (.t 5 []) (.t 8 [])⟩] [5, 6, 7, 8])
      (.cond (.t 9 [])
       (.pre [.kill [9]] .skip)
       (.pre [.kill [3, 9]] (.exit 0))))
     (.seq (.block 1 (.seq (.region [⟨some 12, none, .faddr 4 (.t 1 [])⟩,
         ⟨some 13, none, .load none (.t 12 [1])⟩,
         ⟨some 14, none, .mv false (.t 3 [])⟩,
         ⟨some 15, none, .iaddr 5 (.t 13 []) (.t 14 [])⟩,
         ⟨some 16, none, .load (some 5) (.t 15 [])⟩,
         ⟨some 17, none, .call 213 [(.t 16 [])]⟩,
         ⟨some 18, none, .un .not (.t 17 [])⟩] [12, 13, 14, 15, 16, 17])
       (.cond (.t 18 [])
        (.pre [.kill [1, 3, 18]] (.seq (.region [⟨some 2, none, .take false (.c (.bool false))⟩] [])
        .ret))
        (.pre [.kill [18]] .skip))))
     (.region [⟨some 10, none, .mv false (.t 3 [])⟩,
      ⟨some 11, none, .bin .add (.t 10 []) (.c (I 1))⟩,
      ⟨some 3, none, .take false (.t 11 [])⟩] [10, 11])))))))
  (.seq (.region [⟨some 19, none, .faddr 0 (.t 1 [])⟩,
    ⟨some 20, none, .load none (.t 19 [1])⟩,
    ⟨some 21, none, .bin .eql (.t 20 []) (.c (I 4))⟩,
    ⟨some 4, none, .take false (.t 21 [])⟩] [19, 20, 21])
  (.seq (.seq (.region [⟨some 22, none, .mv false (.t 4 [])⟩,
     ⟨some 23, none, .faddr 2 (.t 1 [])⟩,
     ⟨some 24, none, .load none (.t 23 [1])⟩,
     ⟨some 25, none, .call 62 [(.t 24 [])]⟩,
     ⟨some 26, none, .eqB true (.t 22 []) (.t 25 [])⟩,
     ⟨some 27, none, .mv false (.t 26 [])⟩,
     ⟨some 28, some (27, false), .mv false (.t 4 [])⟩,
     ⟨some 29, some (27, false), .un .not (.t 28 [])⟩,
     ⟨some 30, some (27, false), .mv false (.t 29 [])⟩,
     ⟨some 31, some (30, true), .faddr 2 (.t 1 [])⟩,
     ⟨some 32, some (30, true), .load none (.t 31 [1])⟩,
     ⟨some 33, some (30, true), .bin .neq (.t 32 []) (.c (.str ⟨#[]⟩))⟩,
     ⟨some 34, some (27, false), .pick (.t 30 []) (.t 33 []) (.c (.bool false))⟩,
     ⟨some 35, none, .pick (.t 27 []) (.c (.bool true)) (.t 34 [])⟩,
     ⟨some 36, none, .mv false (.t 35 [])⟩,
     ⟨some 37, some (36, false), .faddr 0 (.t 1 [])⟩,
     ⟨some 38, some (36, false), .load none (.t 37 [1])⟩,
     ⟨some 39, some (36, false), .bin .neq (.t 38 []) (.c (I 3))⟩,
     ⟨some 40, some (36, false), .mv false (.t 39 [])⟩,
     ⟨some 41, some (40, true), .faddr 3 (.t 1 [])⟩,
     ⟨some 42, some (40, true), .load none (.t 41 [1])⟩,
     ⟨some 43, some (40, true), .len (.t 42 [])⟩,
     ⟨some 44, some (40, true), .bin .gtr (.t 43 []) (.c (I 0))⟩,
     ⟨some 45, some (36, false), .pick (.t 40 []) (.t 44 []) (.c (.bool false))⟩,
     ⟨some 46, none, .pick (.t 36 []) (.c (.bool true)) (.t 45 [])⟩] [4, 22, 23, 24, 25, 26, 27, 28, 29, 30, 31, 32, 33, 34, 35, 36, 37, 38, 39, 40, 41, 42, 43, 44, 45])
   (.cond (.t 46 [])
    (.pre [.kill [1, 46]] (.seq (.region [⟨some 2, none, .take false (.c (.bool false))⟩] [])
    .ret))
    (.pre [.kill [46]] .skip)))
  (.seq (.seq (.region [⟨some 47, none, .faddr 0 (.t 1 [])⟩,
     ⟨some 48, none, .load none (.t 47 [1])⟩] [47])
   (.block 2 (.seq (.region [⟨some 50, none, .bin .eql (.t 48 []) (.c (I 1))⟩,
      ⟨some 49, none, .take false (.t 50 [])⟩] [50])
    (.cond (.t 49 [])
     (.pre [.kill [48, 49]] (.seq (.region [⟨some 51, none, .faddr 4 (.t 1 [])⟩,
       ⟨some 52, none, .load none (.t 51 [1])⟩,
       ⟨some 53, none, .len (.t 52 [])⟩,
       ⟨some 54, none, .bin .eql (.t 53 []) (.c (I 0))⟩,
       ⟨some 2, none, .take false (.t 54 [])⟩] [1, 52, 53, 54])
     .ret))
     (.pre [.kill [49]] (.seq (.region [⟨some 56, none, .bin .eql (.t 48 []) (.c (I 2))⟩,
       ⟨some 55, none, .take false (.t 56 [])⟩] [56])
     (.cond (.t 55 [])
      (.pre [.kill [48, 55]] (.seq (.region [⟨some 57, none, .faddr 4 (.t 1 [])⟩,
        ⟨some 58, none, .load none (.t 57 [1])⟩,
        ⟨some 59, none, .len (.t 58 [])⟩,
        ⟨some 60, none, .bin .eql (.t 59 []) (.c (I 0))⟩,
        ⟨some 61, none, .mv false (.t 60 [])⟩,
        ⟨some 62, some (61, true), .faddr 1 (.t 1 [])⟩,
        ⟨some 63, some (61, true), .load none (.t 62 [1])⟩,
        ⟨some 64, some (61, true), .call 63 [(.t 63 []), (.c (I 0)), (.c (I 1))]⟩,
        ⟨some 65, none, .pick (.t 61 []) (.t 64 []) (.c (.bool false))⟩,
        ⟨some 2, none, .take false (.t 65 [])⟩] [1, 58, 59, 60, 61, 62, 63, 64, 65])
      .ret))
      (.pre [.kill [55]] (.seq (.region [⟨some 67, none, .bin .eql (.t 48 []) (.c (I 3))⟩,
        ⟨some 66, none, .take false (.t 67 [])⟩] [67])
      (.cond (.t 66 [])
       (.pre [.kill [48, 66]] (.seq (.region [⟨some 68, none, .faddr 1 (.t 1 [])⟩,
         ⟨some 69, none, .load none (.t 68 [1])⟩,
         ⟨some 70, none, .bin .eql (.t 69 []) (.c (I 0))⟩,
         ⟨some 71, none, .mv false (.t 70 [])⟩,
         ⟨some 72, some (71, true), .faddr 3 (.t 1 [])⟩,
         ⟨some 73, some (71, true), .load none (.t 72 [1])⟩,
         ⟨some 74, some (71, true), .len (.t 73 [])⟩,
         ⟨some 75, some (71, true), .faddr 4 (.t 1 [])⟩,
         ⟨some 76, some (71, true), .load none (.t 75 [1])⟩,
         ⟨some 77, some (71, true), .len (.t 76 [])⟩,
         ⟨some 78, some (71, true), .bin .eql (.t 74 []) (.t 77 [])⟩,
         ⟨some 79, none, .pick (.t 71 []) (.t 78 []) (.c (.bool false))⟩,
         ⟨some 80, none, .mv false (.t 79 [])⟩,
         ⟨some 81, some (80, true), .faddr 3 (.t 1 [])⟩,
         ⟨some 82, some (80, true), .load none (.t 81 [1])⟩,
         ⟨some 83, some (80, true), .call 240 [(.t 82 [])]⟩,
         ⟨some 84, none, .pick (.t 80 []) (.t 83 []) (.c (.bool false))⟩,
         ⟨some 2, none, .take false (.t 84 [])⟩] [1, 69, 70, 71, 72, 73, 74, 75, 76, 77, 78, 79, 80, 81, 82, 83, 84])
       .ret))
       (.pre [.kill [66]] (.seq (.region [⟨some 86, none, .bin .eql (.t 48 []) (.c (I 4))⟩,
         ⟨some 85, none, .take false (.t 86 [])⟩] [86])
       (.cond (.t 85 [])
        (.pre [.kill [48, 85]] (.seq (.region [⟨some 87, none, .faddr 1 (.t 1 [])⟩,
          ⟨some 88, none, .load none (.t 87 [1])⟩,
          ⟨some 89, none, .bin .eql (.t 88 []) (.c (I 0))⟩,
          ⟨some 90, none, .mv false (.t 89 [])⟩,
          ⟨some 91, some (90, true), .faddr 4 (.t 1 [])⟩,
          ⟨some 92, some (90, true), .load none (.t 91 [1])⟩,
          ⟨some 93, some (90, true), .len (.t 92 [])⟩,
          ⟨some 94, some (90, true), .bin .eql (.t 93 []) (.c (I 1))⟩,
          ⟨some 95, none, .pick (.t 90 []) (.t 94 []) (.c (.bool false))⟩,
          ⟨some 2, none, .take false (.t 95 [])⟩] [1, 88, 89, 90, 91, 92, 93, 94, 95])
        .ret))
        (.pre [.kill [85]] (.seq (.region [⟨some 97, none, .bin .eql (.t 48 []) (.c (I 5))⟩,
          ⟨some 96, none, .take false (.t 97 [])⟩] [48, 97])
        (.cond (.t 96 [])
         (.pre [.kill [96]] (.seq (.region [⟨some 98, none, .faddr 1 (.t 1 [])⟩,
           ⟨some 99, none, .load none (.t 98 [1])⟩,
           ⟨some 100, none, .bin .eql (.t 99 []) (.c (I 0))⟩,
           ⟨some 2, none, .take false (.t 100 [])⟩] [1, 99, 100])
         .ret))
         (.pre [.kill [1, 96]] .skip)))))))))))))))))
  (.seq (.region [⟨some 2, none, .take false (.c (.bool false))⟩] [])
  .ret))))))),
  [(2, none)], [(false, .deep)]⟩

def a_spec_Join : AFunc := ⟨[false, false], 27,
  (.pre [.kill [2, 3, 4, 5, 6, 7, 8, 9, 10, 11, 12, 13, 14, 15, 16, 17, 18, 19, 20, 21, 22, 23, 24, 25, 26]] (.seq (.region [⟨some 4, none, .take false (.c (.str ⟨#[]⟩))⟩] [4])
  (.seq (.region [⟨some 7, none, .mkSl .deep 1 [(.int .u8 0)] 0 []⟩,
    ⟨some 5, none, .take false (.t 7 [])⟩] [7])
  (.seq (.seq (.region [⟨some 6, none, .take false (.c (I 0))⟩] [])
   (.block 0 (.pre [.kill [8, 9, 10, 11, 12, 13, 14, 15, 16, 17, 18, 19, 20, 21, 22, 23, 24]] (.loop (.seq (.seq (.region [⟨some 8, none, .mv false (.t 6 [])⟩,
        ⟨some 9, none, .mv false (.t 0 [])⟩,
        ⟨some 10, none, .len (.t 9 [])⟩,
        ⟨some 11, none, .bin .lss (.t 8 []) (.t 10 [])⟩] [8, 9, 10])
      (.cond (.t 11 [])
       (.pre [.kill [11]] .skip)
       (.pre [.kill [0, 1, 6, 11]] (.exit 0))))
     (.seq (.block 1 (.seq (.seq (.region [⟨some 14, none, .mv false (.t 6 [])⟩,
          ⟨some 15, none, .bin .gtr (.t 14 []) (.c (I 0))⟩] [14])
        (.cond (.t 15 [])
         (.pre [.kill [15]] (.region [⟨some 16, none, .mv false (.t 5 [])⟩,
          ⟨some 17, none, .mv false (.t 1 [])⟩,
          ⟨some 18, none, .appendStr (.t 16 [5]) (.t 17 [])⟩,
          ⟨some 5, none, .take true (.t 18 [])⟩] [16, 17, 18]))
         (.pre [.kill [15]] .skip)))
       (.region [⟨some 19, none, .mv false (.t 5 [])⟩,
        ⟨some 20, none, .mv false (.t 0 [])⟩,
        ⟨some 21, none, .mv false (.t 6 [])⟩,
        ⟨some 22, none, .iaddr 1 (.t 20 []) (.t 21 [])⟩,
        ⟨some 23, none, .load none (.t 22 [])⟩,
        ⟨some 24, none, .appendStr (.t 19 [5]) (.t 23 [])⟩,
        ⟨some 5, none, .take true (.t 24 [])⟩] [19, 20, 21, 22, 23, 24])))
     (.region [⟨some 12, none, .mv false (.t 6 [])⟩,
      ⟨some 13, none, .bin .add (.t 12 []) (.c (I 1))⟩,
      ⟨some 6, none, .take false (.t 13 [])⟩] [12, 13])))))))
  (.seq (.region [⟨some 25, none, .mv false (.t 5 [])⟩,
    ⟨some 26, none, .bytesStr (.t 25 [5])⟩,
    ⟨some 4, none, .take false (.t 26 [])⟩] [5, 25, 26])
  .ret))))),
  [(4, none)], [(false, .deep)]⟩

def a_impl_IsName : AFunc := ⟨[false], 25,
  (.pre [.kill [1, 2, 3, 4, 5, 6, 7, 8, 9, 10, 11, 12, 13, 14, 15, 16, 17, 18, 19, 20, 21, 22, 23, 24]] (.seq (.region [⟨some 2, none, .take false (.c (.bool false))⟩] [2])
  (.seq (.seq (.region [⟨some 4, none, .mv false (.t 0 [])⟩,
     ⟨some 5, none, .lenS (.t 4 [])⟩,
     ⟨some 6, none, .bin .eql (.t 5 []) (.c (I 0))⟩,
     ⟨some 7, none, .mv false (.t 6 [])⟩,
     ⟨some 8, some (7, false), .mv false (.t 0 [])⟩,
     ⟨some 9, some (7, false), .lenS (.t 8 [])⟩,
     ⟨some 10, some (7, false), .bin .gtr (.t 9 []) (.c (I 4))⟩,
     ⟨some 11, none, .pick (.t 7 []) (.c (.bool true)) (.t 10 [])⟩] [4, 5, 6, 7, 8, 9, 10])
   (.cond (.t 11 [])
    (.pre [.kill [0, 11]] (.seq (.region [⟨some 2, none, .take false (.c (.bool false))⟩] [])
    .ret))
    (.pre [.kill [11]] .skip)))
  (.seq (.seq (.region [⟨some 12, none, .mv false (.t 0 [])⟩,
     ⟨some 13, none, .lenS (.t 12 [])⟩,
     ⟨some 14, none, .take false (.c (I 0))⟩] [12])
   (.block 0 (.pre [.kill [2, 3, 15, 16, 17, 18, 19, 20, 21, 22, 23, 24]] (.loop (.seq (.region [⟨some 15, none, .bin .lss (.t 14 []) (.t 13 [])⟩] [])
     (.seq (.cond (.t 15 [])
       (.pre [.kill [15]] .skip)
       (.pre [.kill [0, 13, 14, 15]] (.exit 0)))
     (.seq (.block 1 (.seq (.region [⟨some 16, none, .mv false (.t 14 [])⟩,
         ⟨some 3, none, .take false (.t 16 [])⟩] [16])
       (.seq (.region [⟨some 17, none, .mv false (.t 0 [])⟩,
         ⟨some 18, none, .mv false (.t 3 [])⟩,
         ⟨some 19, none, .index (.t 17 []) (.t 18 [])⟩,
         ⟨some 20, none, .mv false (.t 3 [])⟩,
         ⟨some 21, none, .bin .eql (.t 20 []) (.c (I 0))⟩,
         ⟨some 22, none, .call 95 [(.t 19 []), (.t 21 [])]⟩,
         ⟨some 23, none, .un .not (.t 22 [])⟩] [3, 17, 18, 19, 20, 21, 22])
       (.cond (.t 23 [])
        (.pre [.kill [0, 13, 14, 23]] (.seq (.region [⟨some 2, none, .take false (.c (.bool false))⟩] [])
        .ret))
        (.pre [.kill [23]] .skip)))))
     (.region [⟨some 24, none, .bin .add (.t 14 []) (.c (I 1))⟩,
      ⟨some 14, none, .mv false (.t 24 [])⟩] [24]))))))))
  (.seq (.region [⟨some 2, none, .take false (.c (.bool true))⟩] [])
  .ret))))),
  [(2, none)], [(false, .deep)]⟩

def a_impl_SizeOfValue : AFunc := ⟨[true], 19,
  (.pre [.kill [1, 2, 3, 4, 5, 6, 7, 8, 9, 10, 11, 12, 13, 14, 15, 16, 17, 18]] (.seq (.region [⟨some 1, none, .box false (.t 0 [])⟩,
    ⟨some 2, none, .take false (.c (I 0))⟩] [0, 2])
  (.seq (.region [⟨some 3, none, .take false (.c (I 1))⟩] [])
  (.seq (.seq (.region [⟨some 6, none, .faddr 4 (.t 1 [])⟩,
     ⟨some 7, none, .load none (.t 6 [1])⟩,
     ⟨some 8, none, .len (.t 7 [])⟩,
     ⟨some 9, none, .take false (.c (I 0))⟩] [1])
   (.block 0 (.pre [.kill [5, 10, 11, 12, 13, 14, 15, 16, 17]] (.loop (.seq (.region [⟨some 10, none, .bin .lss (.t 9 []) (.t 8 [])⟩] [])
     (.seq (.cond (.t 10 [])
       (.pre [.kill [10]] .skip)
       (.pre [.kill [7, 8, 9, 10]] (.exit 0)))
     (.seq (.block 1 (.seq (.region [⟨some 11, none, .iaddr 5 (.t 7 []) (.t 9 [])⟩,
         ⟨some 12, none, .load (some 5) (.t 11 [])⟩,
         ⟨some 5, none, .alloc false [I0, I0, S0, (Z 1), (Z 5)] [.deep, .deep, .deep, .deep, .deep]⟩,
         ⟨none, none, .store 5 (.t 5 [5]) (.t 12 [])⟩] [11, 12])
       (.region [⟨some 13, none, .mv false (.t 3 [])⟩,
        ⟨some 14, none, .load (some 5) (.t 5 [5])⟩,
        ⟨some 15, none, .call 74 [(.t 14 [])]⟩,
        ⟨some 16, none, .bin .add (.t 13 []) (.t 15 [])⟩,
        ⟨some 3, none, .take false (.t 16 [])⟩] [5, 13, 14, 15, 16])))
     (.region [⟨some 17, none, .bin .add (.t 9 []) (.c (I 1))⟩,
      ⟨some 9, none, .mv false (.t 17 [])⟩] [17]))))))))
  (.seq (.region [⟨some 18, none, .mv false (.t 3 [])⟩,
    ⟨some 2, none, .take false (.t 18 [])⟩] [3, 18])
  .ret))))),
  [(2, none)], [(false, .deep)]⟩

def a_impl_valueFormed : AFunc := ⟨[true], 128,
  (.pre [.kill [1, 2, 3, 4, 5, 6, 7, 8, 9, 10, 11, 12, 13, 14, 15, 16, 17, 18, 19, 20, 21, 22, 23, 24, 25, 26, 27, 28, 29, 30, 31, 32, 33, 34, 35, 36, 37, 38, 39, 40, 41, 42, 43, 44, 45, 46, 47, 48, 49, 50, 51, 52, 53, 54, 55, 56, 57, 58, 59, 60, 61, 62, 63, 64, 65, 66, 67, 68, 69, 70, 71, 72, 73, 74, 75, 76, 77, 78, 79, 80, 81, 82, 83, 84, 85, 86, 87, 88, 89, 90, 91, 92, 93, 94, 95, 96, 97, 98, 99, 100, 101, 102, 103, 104, 105, 106, 107, 108, 109, 110, 111, 112, 113, 114, 115, 116, 117, 118, 119, 120, 121, 122, 123, 124, 125, 126, 127]] (.seq (.region [⟨some 1, none, .box false (.t 0 [])⟩,
    ⟨some 2, none, .take false (.c (.bool false))⟩] [0, 2])
  (.seq (.region [⟨some 3, none, .take false (.c (.bool false))⟩] [])
  (.seq (.seq (.region [⟨some 6, none, .faddr 0 (.t 1 [])⟩,
     ⟨some 7, none, .load none (.t 6 [1])⟩] [6])
   (.block 0 (.seq (.region [⟨some 9, none, .bin .eql (.t 7 []) (.c (I 1))⟩,
      ⟨some 8, none, .take false (.t 9 [])⟩] [9])
    (.cond (.t 8 [])
     (.pre [.kill [3, 7, 8]] (.region [⟨some 10, none, .faddr 2 (.t 1 [])⟩,
      ⟨some 11, none, .load none (.t 10 [1])⟩,
      ⟨some 12, none, .bin .eql (.t 11 []) (.c (.str ⟨#[]⟩))⟩,
      ⟨some 13, none, .mv false (.t 12 [])⟩,
      ⟨some 14, some (13, true), .faddr 3 (.t 1 [])⟩,
      ⟨some 15, some (13, true), .load none (.t 14 [1])⟩,
      ⟨some 16, some (13, true), .len (.t 15 [])⟩,
      ⟨some 17, some (13, true), .bin .eql (.t 16 []) (.c (I 0))⟩,
      ⟨some 18, none, .pick (.t 13 []) (.t 17 []) (.c (.bool false))⟩,
      ⟨some 19, none, .mv false (.t 18 [])⟩,
      ⟨some 20, some (19, true), .faddr 4 (.t 1 [])⟩,
      ⟨some 21, some (19, true), .load none (.t 20 [1])⟩,
      ⟨some 22, some (19, true), .len (.t 21 [])⟩,
      ⟨some 23, some (19, true), .bin .eql (.t 22 []) (.c (I 0))⟩,
      ⟨some 24, none, .pick (.t 19 []) (.t 23 []) (.c (.bool false))⟩,
      ⟨some 3, none, .take false (.t 24 [])⟩] [10, 11, 12, 13, 14, 15, 16, 17, 18, 19, 20, 21, 22, 23, 24]))
     (.pre [.kill [8]] (.seq (.region [⟨some 26, none, .bin .eql (.t 7 []) (.c (I 2))⟩,
       ⟨some 25, none, .take false (.t 26 [])⟩] [26])
     (.cond (.t 25 [])
      (.pre [.kill [3, 7, 25]] (.region [⟨some 27, none, .faddr 1 (.t 1 [])⟩,
       ⟨some 28, none, .load none (.t 27 [1])⟩,
       ⟨some 29, none, .bin .eql (.t 28 []) (.c (I 0))⟩,
       ⟨some 30, none, .mv false (.t 29 [])⟩,
       ⟨some 31, some (30, false), .faddr 1 (.t 1 [])⟩,
       ⟨some 32, some (30, false), .load none (.t 31 [1])⟩,
       ⟨some 33, some (30, false), .bin .eql (.t 32 []) (.c (I 1))⟩,
       ⟨some 34, none, .pick (.t 30 []) (.c (.bool true)) (.t 33 [])⟩,
       ⟨some 35, none, .mv false (.t 34 [])⟩,
       ⟨some 36, some (35, true), .faddr 2 (.t 1 [])⟩,
       ⟨some 37, some (35, true), .load none (.t 36 [1])⟩,
       ⟨some 38, some (35, true), .bin .eql (.t 37 []) (.c (.str ⟨#[]⟩))⟩,
       ⟨some 39, none, .pick (.t 35 []) (.t 38 []) (.c (.bool false))⟩,
       ⟨some 40, none, .mv false (.t 39 [])⟩,
       ⟨some 41, some (40, true), .faddr 3 (.t 1 [])⟩,
       ⟨some 42, some (40, true), .load none (.t 41 [1])⟩,
       ⟨some 43, some (40, true), .len (.t 42 [])⟩,
       ⟨some 44, some (40, true), .bin .eql (.t 43 []) (.c (I 0))⟩,
       ⟨some 45, none, .pick (.t 40 []) (.t 44 []) (.c (.bool false))⟩,
       ⟨some 46, none, .mv false (.t 45 [])⟩,
       ⟨some 47, some (46, true), .faddr 4 (.t 1 [])⟩,
       ⟨some 48, some (46, true), .load none (.t 47 [1])⟩,
       ⟨some 49, some (46, true), .len (.t 48 [])⟩,
       ⟨some 50, some (46, true), .bin .eql (.t 49 []) (.c (I 0))⟩,
       ⟨some 51, none, .pick (.t 46 []) (.t 50 []) (.c (.bool false))⟩,
       ⟨some 3, none, .take false (.t 51 [])⟩] [27, 28, 29, 30, 31, 32, 33, 34, 35, 36, 37, 38, 39, 40, 41, 42, 43, 44, 45, 46, 47, 48, 49, 50, 51]))
      (.pre [.kill [25]] (.seq (.region [⟨some 53, none, .bin .eql (.t 7 []) (.c (I 3))⟩,
        ⟨some 52, none, .take false (.t 53 [])⟩] [53])
      (.cond (.t 52 [])
       (.pre [.kill [3, 7, 52]] (.region [⟨some 54, none, .faddr 1 (.t 1 [])⟩,
        ⟨some 55, none, .load none (.t 54 [1])⟩,
        ⟨some 56, none, .bin .eql (.t 55 []) (.c (I 0))⟩,
        ⟨some 57, none, .mv false (.t 56 [])⟩,
        ⟨some 58, some (57, true), .faddr 2 (.t 1 [])⟩,
        ⟨some 59, some (57, true), .load none (.t 58 [1])⟩,
        ⟨some 60, some (57, true), .bin .eql (.t 59 []) (.c (.str ⟨#[]⟩))⟩,
        ⟨some 61, none, .pick (.t 57 []) (.t 60 []) (.c (.bool false))⟩,
        ⟨some 62, none, .mv false (.t 61 [])⟩,
        ⟨some 63, some (62, true), .faddr 3 (.t 1 [])⟩,
        ⟨some 64, some (62, true), .load none (.t 63 [1])⟩,
        ⟨some 65, some (62, true), .len (.t 64 [])⟩,
        ⟨some 66, some (62, true), .faddr 4 (.t 1 [])⟩,
        ⟨some 67, some (62, true), .load none (.t 66 [1])⟩,
        ⟨some 68, some (62, true), .len (.t 67 [])⟩,
        ⟨some 69, some (62, true), .bin .eql (.t 65 []) (.t 68 [])⟩,
        ⟨some 70, none, .pick (.t 62 []) (.t 69 []) (.c (.bool false))⟩,
        ⟨some 71, none, .mv false (.t 70 [])⟩,
        ⟨some 72, some (71, true), .faddr 3 (.t 1 [])⟩,
        ⟨some 73, some (71, true), .load none (.t 72 [1])⟩,
        ⟨some 74, some (71, true), .call 241 [(.t 73 [])]⟩,
        ⟨some 75, none, .pick (.t 71 []) (.t 74 []) (.c (.bool false))⟩,
        ⟨some 3, none, .take false (.t 75 [])⟩] [54, 55, 56, 57, 58, 59, 60, 61, 62, 63, 64, 65, 66, 67, 68, 69, 70, 71, 72, 73, 74, 75]))
       (.pre [.kill [52]] (.seq (.region [⟨some 77, none, .bin .eql (.t 7 []) (.c (I 4))⟩,
         ⟨some 76, none, .take false (.t 77 [])⟩] [77])
       (.cond (.t 76 [])
        (.pre [.kill [3, 7, 76]] (.region [⟨some 78, none, .faddr 1 (.t 1 [])⟩,
         ⟨some 79, none, .load none (.t 78 [1])⟩,
         ⟨some 80, none, .bin .eql (.t 79 []) (.c (I 0))⟩,
         ⟨some 81, none, .mv false (.t 80 [])⟩,
         ⟨some 82, some (81, true), .faddr 2 (.t 1 [])⟩,
         ⟨some 83, some (81, true), .load none (.t 82 [1])⟩,
         ⟨some 84, some (81, true), .call 64 [(.t 83 [])]⟩,
         ⟨some 85, none, .pick (.t 81 []) (.t 84 []) (.c (.bool false))⟩,
         ⟨some 86, none, .mv false (.t 85 [])⟩,
         ⟨some 87, some (86, true), .faddr 3 (.t 1 [])⟩,
         ⟨some 88, some (86, true), .load none (.t 87 [1])⟩,
         ⟨some 89, some (86, true), .len (.t 88 [])⟩,
         ⟨some 90, some (86, true), .bin .eql (.t 89 []) (.c (I 0))⟩,
         ⟨some 91, none, .pick (.t 86 []) (.t 90 []) (.c (.bool false))⟩,
         ⟨some 92, none, .mv false (.t 91 [])⟩,
         ⟨some 93, some (92, true), .faddr 4 (.t 1 [])⟩,
         ⟨some 94, some (92, true), .load none (.t 93 [1])⟩,
         ⟨some 95, some (92, true), .len (.t 94 [])⟩,
         ⟨some 96, some (92, true), .bin .eql (.t 95 []) (.c (I 1))⟩,
         ⟨some 97, none, .pick (.t 92 []) (.t 96 []) (.c (.bool false))⟩,
         ⟨some 3, none, .take false (.t 97 [])⟩] [78, 79, 80, 81, 82, 83, 84, 85, 86, 87, 88, 89, 90, 91, 92, 93, 94, 95, 96, 97]))
        (.pre [.kill [76]] (.seq (.region [⟨some 99, none, .bin .eql (.t 7 []) (.c (I 5))⟩,
          ⟨some 98, none, .take false (.t 99 [])⟩] [7, 99])
        (.cond (.t 98 [])
         (.pre [.kill [3, 98]] (.region [⟨some 100, none, .faddr 1 (.t 1 [])⟩,
          ⟨some 101, none, .load none (.t 100 [1])⟩,
          ⟨some 102, none, .bin .eql (.t 101 []) (.c (I 0))⟩,
          ⟨some 103, none, .mv false (.t 102 [])⟩,
          ⟨some 104, some (103, true), .faddr 2 (.t 1 [])⟩,
          ⟨some 105, some (103, true), .load none (.t 104 [1])⟩,
          ⟨some 106, some (103, true), .bin .eql (.t 105 []) (.c (.str ⟨#[]⟩))⟩,
          ⟨some 107, none, .pick (.t 103 []) (.t 106 []) (.c (.bool false))⟩,
          ⟨some 108, none, .mv false (.t 107 [])⟩,
          ⟨some 109, some (108, true), .faddr 3 (.t 1 [])⟩,
          ⟨some 110, some (108, true), .load none (.t 109 [1])⟩,
          ⟨some 111, some (108, true), .len (.t 110 [])⟩,
          ⟨some 112, some (108, true), .bin .eql (.t 111 []) (.c (I 0))⟩,
          ⟨some 113, none, .pick (.t 108 []) (.t 112 []) (.c (.bool false))⟩,
          ⟨some 3, none, .take false (.t 113 [])⟩] [100, 101, 102, 103, 104, 105, 106, 107, 108, 109, 110, 111, 112, 113]))
         (.pre [.kill [98]] .skip)))))))))))))))))
  (.seq (.seq (.region [⟨some 114, none, .faddr 4 (.t 1 [])⟩,
     ⟨some 115, none, .load none (.t 114 [1])⟩,
     ⟨some 116, none, .len (.t 115 [])⟩,
     ⟨some 117, none, .take false (.c (I 0))⟩] [1])
   (.block 1 (.pre [.kill [5, 118, 119, 120, 121, 122, 123, 124, 125, 126]] (.loop (.seq (.region [⟨some 118, none, .bin .lss (.t 117 []) (.t 116 [])⟩] [])
     (.seq (.cond (.t 118 [])
       (.pre [.kill [118]] .skip)
       (.pre [.kill [115, 116, 117, 118]] (.exit 1)))
     (.seq (.block 2 (.seq (.region [⟨some 119, none, .iaddr 5 (.t 115 []) (.t 117 [])⟩,
         ⟨some 120, none, .load (some 5) (.t 119 [])⟩,
         ⟨some 5, none, .alloc false [I0, I0, S0, (Z 1), (Z 5)] [.deep, .deep, .deep, .deep, .deep]⟩,
         ⟨none, none, .store 5 (.t 5 [5]) (.t 120 [])⟩] [119, 120])
       (.region [⟨some 121, none, .mv false (.t 3 [])⟩,
        ⟨some 122, none, .mv false (.t 121 [])⟩,
        ⟨some 123, some (122, true), .load (some 5) (.t 5 [5])⟩,
        ⟨some 124, some (122, true), .call 216 [(.t 123 [])]⟩,
        ⟨some 125, none, .pick (.t 122 []) (.t 124 []) (.c (.bool false))⟩,
        ⟨some 3, none, .take false (.t 125 [])⟩] [5, 121, 122, 123, 124, 125])))
     (.region [⟨some 126, none, .bin .add (.t 117 []) (.c (I 1))⟩,
      ⟨some 117, none, .mv false (.t 126 [])⟩] [126]))))))))
  (.seq (.region [⟨some 127, none, .mv false (.t 3 [])⟩,
    ⟨some 2, none, .take false (.t 127 [])⟩] [3, 127])
  .ret)))))),
  [(2, none)], [(false, .deep)]⟩

def a_impl_Join : AFunc := ⟨[false, false], 27,
  (.pre [.kill [2, 3, 4, 5, 6, 7, 8, 9, 10, 11, 12, 13, 14, 15, 16, 17, 18, 19, 20, 21, 22, 23, 24, 25, 26]] (.seq (.region [⟨some 4, none, .take false (.c (.str ⟨#[]⟩))⟩] [4])
  (.seq (.region [⟨some 8, none, .mkSl .deep 1 [(.int .u8 0)] 0 []⟩,
    ⟨some 5, none, .take false (.t 8 [])⟩] [8])
  (.seq (.seq (.region [⟨some 9, none, .mv false (.t 0 [])⟩,
     ⟨some 10, none, .len (.t 9 [])⟩,
     ⟨some 11, none, .take false (.c (I 0))⟩] [0])
   (.block 0 (.pre [.kill [6, 7, 12, 13, 14, 15, 16, 17, 18, 19, 20, 21, 22, 23, 24]] (.loop (.seq (.region [⟨some 12, none, .bin .lss (.t 11 []) (.t 10 [])⟩] [])
     (.seq (.cond (.t 12 [])
       (.pre [.kill [12]] .skip)
       (.pre [.kill [1, 9, 10, 11, 12]] (.exit 0)))
     (.seq (.block 1 (.seq (.region [⟨some 13, none, .mv false (.t 11 [])⟩,
         ⟨some 14, none, .iaddr 1 (.t 9 []) (.t 11 [])⟩,
         ⟨some 15, none, .load none (.t 14 [])⟩,
         ⟨some 6, none, .take false (.t 13 [])⟩,
         ⟨some 7, none, .take false (.t 15 [])⟩] [13, 14, 15])
       (.seq (.seq (.region [⟨some 16, none, .mv false (.t 6 [])⟩,
          ⟨some 17, none, .bin .gtr (.t 16 []) (.c (I 0))⟩] [6, 16])
        (.cond (.t 17 [])
         (.pre [.kill [17]] (.region [⟨some 18, none, .mv false (.t 5 [])⟩,
          ⟨some 19, none, .mv false (.t 1 [])⟩,
          ⟨some 20, none, .appendStr (.t 18 [5]) (.t 19 [])⟩,
          ⟨some 5, none, .take true (.t 20 [])⟩] [18, 19, 20]))
         (.pre [.kill [17]] .skip)))
       (.region [⟨some 21, none, .mv false (.t 5 [])⟩,
        ⟨some 22, none, .mv false (.t 7 [])⟩,
        ⟨some 23, none, .appendStr (.t 21 [5]) (.t 22 [])⟩,
        ⟨some 5, none, .take true (.t 23 [])⟩] [7, 21, 22, 23]))))
     (.region [⟨some 24, none, .bin .add (.t 11 []) (.c (I 1))⟩,
      ⟨some 11, none, .mv false (.t 24 [])⟩] [24]))))))))
  (.seq (.region [⟨some 25, none, .mv false (.t 5 [])⟩,
    ⟨some 26, none, .bytesStr (.t 25 [5])⟩,
    ⟨some 4, none, .take false (.t 26 [])⟩] [5, 25, 26])
  .ret))))),
  [(4, none)], [(false, .deep)]⟩

def a_spec_l3Labels : AFunc := ⟨[false], 23,
  (.pre [.kill [1, 2, 3, 4, 5, 6, 7, 8, 9, 10, 11, 12, 13, 14, 15, 16, 17, 18, 19, 20, 21, 22]] (.seq (.region [⟨some 2, none, .take false (.c (.bool false))⟩] [2])
  (.seq (.seq (.region [⟨some 3, none, .take false (.c (I 0))⟩] [])
   (.block 0 (.pre [.kill [2, 4, 5, 6, 7, 8, 9, 10, 11, 12, 13, 14, 15]] (.loop (.seq (.seq (.region [⟨some 4, none, .mv false (.t 3 [])⟩,
        ⟨some 5, none, .mv false (.t 0 [])⟩,
        ⟨some 6, none, .len (.t 5 [])⟩,
        ⟨some 7, none, .bin .lss (.t 4 []) (.t 6 [])⟩] [4, 5, 6])
      (.cond (.t 7 [])
       (.pre [.kill [7]] .skip)
       (.pre [.kill [3, 7]] (.exit 0))))
     (.seq (.block 1 (.seq (.region [⟨some 10, none, .mv false (.t 0 [])⟩,
         ⟨some 11, none, .mv false (.t 3 [])⟩,
         ⟨some 12, none, .iaddr 1 (.t 10 []) (.t 11 [])⟩,
         ⟨some 13, none, .load none (.t 12 [])⟩,
         ⟨some 14, none, .call 62 [(.t 13 [])]⟩,
         ⟨some 15, none, .un .not (.t 14 [])⟩] [10, 11, 12, 13, 14])
       (.cond (.t 15 [])
        (.pre [.kill [0, 3, 15]] (.seq (.region [⟨some 2, none, .take false (.c (.bool false))⟩] [])
        .ret))
        (.pre [.kill [15]] .skip))))
     (.region [⟨some 8, none, .mv false (.t 3 [])⟩,
      ⟨some 9, none, .bin .add (.t 8 []) (.c (I 1))⟩,
      ⟨some 3, none, .take false (.t 9 [])⟩] [8, 9])))))))
  (.seq (.region [⟨some 16, none, .mv false (.t 0 [])⟩,
    ⟨some 17, none, .len (.t 16 [])⟩,
    ⟨some 18, none, .call 63 [(.t 17 []), (.c (I 1)), (.c (I 4))]⟩,
    ⟨some 19, none, .mv false (.t 18 [])⟩,
    ⟨some 20, some (19, true), .mv false (.t 0 [])⟩,
    ⟨some 21, some (19, true), .call 245 [(.t 20 [])]⟩,
    ⟨some 22, none, .pick (.t 19 []) (.t 21 []) (.c (.bool false))⟩,
    ⟨some 2, none, .take false (.t 22 [])⟩] [0, 16, 17, 18, 19, 20, 21, 22])
  .ret)))),
  [(2, none)], [(false, .deep)]⟩

def a_impl_nameByte : AFunc := ⟨[false, false], 23,
  (.pre [.kill [2, 3, 4, 5, 6, 7, 8, 9, 10, 11, 12, 13, 14, 15, 16, 17, 18, 19, 20, 21, 22]] (.seq (.region [⟨some 4, none, .take false (.c (.bool false))⟩] [4])
  (.seq (.region [⟨some 5, none, .mv false (.t 0 [])⟩,
    ⟨some 6, none, .bin .geq (.t 5 []) (.c (.int .u8 97))⟩,
    ⟨some 7, none, .mv false (.t 6 [])⟩,
    ⟨some 8, some (7, true), .mv false (.t 0 [])⟩,
    ⟨some 9, some (7, true), .bin .leq (.t 8 []) (.c (.int .u8 122))⟩,
    ⟨some 10, none, .pick (.t 7 []) (.t 9 []) (.c (.bool false))⟩,
    ⟨some 11, none, .mv false (.t 10 [])⟩,
    ⟨some 12, some (11, false), .mv false (.t 1 [])⟩,
    ⟨some 13, some (11, false), .un .not (.t 12 [])⟩,
    ⟨some 14, some (11, false), .mv false (.t 13 [])⟩,
    ⟨some 15, some (14, true), .mv false (.t 0 [])⟩,
    ⟨some 16, some (14, true), .bin .geq (.t 15 []) (.c (.int .u8 48))⟩,
    ⟨some 17, some (11, false), .pick (.t 14 []) (.t 16 []) (.c (.bool false))⟩,
    ⟨some 18, some (11, false), .mv false (.t 17 [])⟩,
    ⟨some 19, some (18, true), .mv false (.t 0 [])⟩,
    ⟨some 20, some (18, true), .bin .leq (.t 19 []) (.c (.int .u8 57))⟩,
    ⟨some 21, some (11, false), .pick (.t 18 []) (.t 20 []) (.c (.bool false))⟩,
    ⟨some 22, none, .pick (.t 11 []) (.c (.bool true)) (.t 21 [])⟩,
    ⟨some 4, none, .take false (.t 22 [])⟩] [0, 1, 5, 6, 7, 8, 9, 10, 11, 12, 13, 14, 15, 16, 17, 18, 19, 20, 21, 22])
  .ret))),
  [(4, none)], [(false, .deep)]⟩

def a_impl_labelsOk : AFunc := ⟨[false], 28,
  (.pre [.kill [1, 2, 3, 4, 5, 6, 7, 8, 9, 10, 11, 12, 13, 14, 15, 16, 17, 18, 19, 20, 21, 22, 23, 24, 25, 26, 27]] (.seq (.region [⟨some 2, none, .take false (.c (.bool false))⟩] [2])
  (.seq (.seq (.region [⟨some 5, none, .mv false (.t 0 [])⟩,
     ⟨some 6, none, .len (.t 5 [])⟩,
     ⟨some 7, none, .bin .lss (.t 6 []) (.c (I 1))⟩,
     ⟨some 8, none, .mv false (.t 7 [])⟩,
     ⟨some 9, some (8, false), .mv false (.t 0 [])⟩,
     ⟨some 10, some (8, false), .len (.t 9 [])⟩,
     ⟨some 11, some (8, false), .bin .gtr (.t 10 []) (.c (I 4))⟩,
     ⟨some 12, none, .pick (.t 8 []) (.c (.bool true)) (.t 11 [])⟩,
     ⟨some 13, none, .mv false (.t 12 [])⟩,
     ⟨some 14, some (13, false), .mv false (.t 0 [])⟩,
     ⟨some 15, some (13, false), .call 246 [(.t 14 [])]⟩,
     ⟨some 16, some (13, false), .un .not (.t 15 [])⟩,
     ⟨some 17, none, .pick (.t 13 []) (.c (.bool true)) (.t 16 [])⟩] [5, 6, 7, 8, 9, 10, 11, 12, 13, 14, 15, 16])
   (.cond (.t 17 [])
    (.pre [.kill [0, 17]] (.seq (.region [⟨some 2, none, .take false (.c (.bool false))⟩] [])
    .ret))
    (.pre [.kill [17]] .skip)))
  (.seq (.seq (.region [⟨some 18, none, .mv false (.t 0 [])⟩,
     ⟨some 19, none, .len (.t 18 [])⟩,
     ⟨some 20, none, .take false (.c (I 0))⟩] [0])
   (.block 0 (.pre [.kill [2, 4, 21, 22, 23, 24, 25, 26, 27]] (.loop (.seq (.region [⟨some 21, none, .bin .lss (.t 20 []) (.t 19 [])⟩] [])
     (.seq (.cond (.t 21 [])
       (.pre [.kill [21]] .skip)
       (.pre [.kill [18, 19, 20, 21]] (.exit 0)))
     (.seq (.block 1 (.seq (.region [⟨some 22, none, .iaddr 1 (.t 18 []) (.t 20 [])⟩,
         ⟨some 23, none, .load none (.t 22 [])⟩,
         ⟨some 4, none, .take false (.t 23 [])⟩] [22, 23])
       (.seq (.region [⟨some 24, none, .mv false (.t 4 [])⟩,
         ⟨some 25, none, .call 64 [(.t 24 [])]⟩,
         ⟨some 26, none, .un .not (.t 25 [])⟩] [4, 24, 25])
       (.cond (.t 26 [])
        (.pre [.kill [18, 19, 20, 26]] (.seq (.region [⟨some 2, none, .take false (.c (.bool false))⟩] [])
        .ret))
        (.pre [.kill [26]] .skip)))))
     (.region [⟨some 27, none, .bin .add (.t 20 []) (.c (I 1))⟩,
      ⟨some 20, none, .mv false (.t 27 [])⟩] [27]))))))))
  (.seq (.region [⟨some 2, none, .take false (.c (.bool true))⟩] [])
  .ret))))),
  [(2, none)], [(false, .deep)]⟩

def a_spec_AreAscending : AFunc := ⟨[false], 20,
  (.pre [.kill [1, 2, 3, 4, 5, 6, 7, 8, 9, 10, 11, 12, 13, 14, 15, 16, 17, 18, 19]] (.seq (.region [⟨some 2, none, .take false (.c (.bool false))⟩] [2])
  (.seq (.seq (.region [⟨some 3, none, .take false (.c (I 1))⟩] [])
   (.block 0 (.pre [.kill [2, 4, 5, 6, 7, 8, 9, 10, 11, 12, 13, 14, 15, 16, 17, 18, 19]] (.loop (.seq (.seq (.region [⟨some 4, none, .mv false (.t 3 [])⟩,
        ⟨some 5, none, .mv false (.t 0 [])⟩,
        ⟨some 6, none, .len (.t 5 [])⟩,
        ⟨some 7, none, .bin .lss (.t 4 []) (.t 6 [])⟩] [4, 5, 6])
      (.cond (.t 7 [])
       (.pre [.kill [7]] .skip)
       (.pre [.kill [0, 3, 7]] (.exit 0))))
     (.seq (.block 1 (.seq (.region [⟨some 10, none, .mv false (.t 0 [])⟩,
         ⟨some 11, none, .mv false (.t 3 [])⟩,
         ⟨some 12, none, .bin .sub (.t 11 []) (.c (I 1))⟩,
         ⟨some 13, none, .iaddr 1 (.t 10 []) (.t 12 [])⟩,
         ⟨some 14, none, .load none (.t 13 [])⟩,
         ⟨some 15, none, .mv false (.t 0 [])⟩,
         ⟨some 16, none, .mv false (.t 3 [])⟩,
         ⟨some 17, none, .iaddr 1 (.t 15 []) (.t 16 [])⟩,
         ⟨some 18, none, .load none (.t 17 [])⟩,
         ⟨some 19, none, .bin .geq (.t 14 []) (.t 18 [])⟩] [10, 11, 12, 13, 14, 15, 16, 17, 18])
       (.cond (.t 19 [])
        (.pre [.kill [0, 3, 19]] (.seq (.region [⟨some 2, none, .take false (.c (.bool false))⟩] [])
        .ret))
        (.pre [.kill [19]] .skip))))
     (.region [⟨some 8, none, .mv false (.t 3 [])⟩,
      ⟨some 9, none, .bin .add (.t 8 []) (.c (I 1))⟩,
      ⟨some 3, none, .take false (.t 9 [])⟩] [8, 9])))))))
  (.seq (.region [⟨some 2, none, .take false (.c (.bool true))⟩] [])
  .ret)))),
  [(2, none)], [(false, .deep)]⟩

def a_impl_AreAscending : AFunc := ⟨[false], 20,
  (.pre [.kill [1, 2, 3, 4, 5, 6, 7, 8, 9, 10, 11, 12, 13, 14, 15, 16, 17, 18, 19]] (.seq (.region [⟨some 2, none, .take false (.c (.bool false))⟩] [2])
  (.seq (.seq (.region [⟨some 3, none, .take false (.c (I 1))⟩] [])
   (.block 0 (.pre [.kill [2, 4, 5, 6, 7, 8, 9, 10, 11, 12, 13, 14, 15, 16, 17, 18, 19]] (.loop (.seq (.seq (.region [⟨some 4, none, .mv false (.t 3 [])⟩,
        ⟨some 5, none, .mv false (.t 0 [])⟩,
        ⟨some 6, none, .len (.t 5 [])⟩,
        ⟨some 7, none, .bin .lss (.t 4 []) (.t 6 [])⟩] [4, 5, 6])
      (.cond (.t 7 [])
       (.pre [.kill [7]] .skip)
       (.pre [.kill [0, 3, 7]] (.exit 0))))
     (.seq (.block 1 (.seq (.region [⟨some 10, none, .mv false (.t 0 [])⟩,
         ⟨some 11, none, .mv false (.t 3 [])⟩,
         ⟨some 12, none, .bin .sub (.t 11 []) (.c (I 1))⟩,
         ⟨some 13, none, .iaddr 1 (.t 10 []) (.t 12 [])⟩,
         ⟨some 14, none, .load none (.t 13 [])⟩,
         ⟨some 15, none, .mv false (.t 0 [])⟩,
         ⟨some 16, none, .mv false (.t 3 [])⟩,
         ⟨some 17, none, .iaddr 1 (.t 15 []) (.t 16 [])⟩,
         ⟨some 18, none, .load none (.t 17 [])⟩,
         ⟨some 19, none, .bin .geq (.t 14 []) (.t 18 [])⟩] [10, 11, 12, 13, 14, 15, 16, 17, 18])
       (.cond (.t 19 [])
        (.pre [.kill [0, 3, 19]] (.seq (.region [⟨some 2, none, .take false (.c (.bool false))⟩] [])
        .ret))
        (.pre [.kill [19]] .skip))))
     (.region [⟨some 8, none, .mv false (.t 3 [])⟩,
      ⟨some 9, none, .bin .add (.t 8 []) (.c (I 1))⟩,
      ⟨some 3, none, .take false (.t 9 [])⟩] [8, 9])))))))
  (.seq (.region [⟨some 2, none, .take false (.c (.bool true))⟩] [])
  .ret)))),
  [(2, none)], [(false, .deep)]⟩

def tab : Nat → Option AFunc
  | 143 => some a_laws_FnExactEditText
  | 71 => some a_laws_szEdit
  | 73 => some a_laws_toEdit
  | 168 => some a_spec_EditText
  | 169 => some a_impl_EditText
  | 75 => some a_laws_eqEdit
  | 11 => some a_laws_szStepS
  | 76 => some a_laws_szValue
  | 13 => some a_laws_toStepS
  | 78 => some a_laws_toValue
  | 39 => some a_spec_PathText
  | 200 => some a_spec_FormatValue
  | 69 => some a_spec_FormatInt
  | 40 => some a_impl_PathText
  | 201 => some a_impl_FormatValue
  | 70 => some a_impl_FormatInt
  | 15 => some a_laws_eqStepS
  | 81 => some a_laws_eqValue
  | 59 => some a_laws_szStep
  | 97 => some a_laws_szStringS
  | 98 => some a_laws_szValueS
  | 60 => some a_laws_toStep
  | 100 => some a_laws_toStringS
  | 101 => some a_laws_toValueS
  | 16 => some a_spec_IsPath
  | 180 => some a_spec_IsValue
  | 235 => some a_spec_l6Text
  | 17 => some a_impl_IsPath
  | 182 => some a_impl_IsValue
  | 236 => some a_impl_valueText
  | 96 => some a_impl_digitsOf
  | 61 => some a_laws_eqStep
  | 103 => some a_laws_eqStringS
  | 104 => some a_laws_eqValueS
  | 62 => some a_spec_IsName
  | 63 => some a_spec_l1In
  | 212 => some a_spec_l5Left
  | 213 => some a_spec_l5Form
  | 243 => some a_spec_Join
  | 64 => some a_impl_IsName
  | 74 => some a_impl_SizeOfValue
  | 216 => some a_impl_valueFormed
  | 244 => some a_impl_Join
  | 240 => some a_spec_l3Labels
  | 95 => some a_impl_nameByte
  | 241 => some a_impl_labelsOk
  | 245 => some a_spec_AreAscending
  | 246 => some a_impl_AreAscending
  | _ => none
def num : Nat → FuncId
  | 143 => 8
  | 71 => 34
  | 73 => 36
  | 168 => 35
  | 169 => 37
  | 75 => 38
  | 11 => 12
  | 76 => 47
  | 13 => 14
  | 78 => 49
  | 39 => 13
  | 200 => 76
  | 69 => 56
  | 40 => 15
  | 201 => 77
  | 70 => 59
  | 15 => 16
  | 81 => 51
  | 59 => 54
  | 97 => 78
  | 98 => 92
  | 60 => 57
  | 100 => 84
  | 101 => 94
  | 16 => 55
  | 180 => 114
  | 235 => 115
  | 17 => 58
  | 182 => 116
  | 236 => 117
  | 96 => 101
  | 61 => 60
  | 103 => 90
  | 104 => 96
  | 62 => 99
  | 63 => 83
  | 212 => 154
  | 213 => 155
  | 243 => 156
  | 64 => 100
  | 74 => 62
  | 216 => 157
  | 244 => 158
  | 240 => 160
  | 95 => 141
  | 241 => 162
  | 245 => 185
  | 246 => 186
  | _ => 0
theorem k143 : chkFn Try.prog num 143 a_laws_FnExactEditText = true := by kernel_rfl
theorem k71 : chkFn Try.prog num 71 a_laws_szEdit = true := by kernel_rfl
theorem k73 : chkFn Try.prog num 73 a_laws_toEdit = true := by kernel_rfl
theorem k168 : chkFn Try.prog num 168 a_spec_EditText = true := by kernel_rfl
theorem k169 : chkFn Try.prog num 169 a_impl_EditText = true := by kernel_rfl
theorem k75 : chkFn Try.prog num 75 a_laws_eqEdit = true := by kernel_rfl
theorem k11 : chkFn Try.prog num 11 a_laws_szStepS = true := by kernel_rfl
theorem k76 : chkFn Try.prog num 76 a_laws_szValue = true := by kernel_rfl
theorem k13 : chkFn Try.prog num 13 a_laws_toStepS = true := by kernel_rfl
theorem k78 : chkFn Try.prog num 78 a_laws_toValue = true := by kernel_rfl
theorem k39 : chkFn Try.prog num 39 a_spec_PathText = true := by kernel_rfl
theorem k200 : chkFn Try.prog num 200 a_spec_FormatValue = true := by kernel_rfl
theorem k69 : chkFn Try.prog num 69 a_spec_FormatInt = true := by kernel_rfl
theorem k40 : chkFn Try.prog num 40 a_impl_PathText = true := by kernel_rfl
theorem k201 : chkFn Try.prog num 201 a_impl_FormatValue = true := by kernel_rfl
theorem k70 : chkFn Try.prog num 70 a_impl_FormatInt = true := by kernel_rfl
theorem k15 : chkFn Try.prog num 15 a_laws_eqStepS = true := by kernel_rfl
theorem k81 : chkFn Try.prog num 81 a_laws_eqValue = true := by kernel_rfl
theorem k59 : chkFn Try.prog num 59 a_laws_szStep = true := by kernel_rfl
theorem k97 : chkFn Try.prog num 97 a_laws_szStringS = true := by kernel_rfl
theorem k98 : chkFn Try.prog num 98 a_laws_szValueS = true := by kernel_rfl
theorem k60 : chkFn Try.prog num 60 a_laws_toStep = true := by kernel_rfl
theorem k100 : chkFn Try.prog num 100 a_laws_toStringS = true := by kernel_rfl
theorem k101 : chkFn Try.prog num 101 a_laws_toValueS = true := by kernel_rfl
theorem k16 : chkFn Try.prog num 16 a_spec_IsPath = true := by kernel_rfl
theorem k180 : chkFn Try.prog num 180 a_spec_IsValue = true := by kernel_rfl
theorem k235 : chkFn Try.prog num 235 a_spec_l6Text = true := by kernel_rfl
theorem k17 : chkFn Try.prog num 17 a_impl_IsPath = true := by kernel_rfl
theorem k182 : chkFn Try.prog num 182 a_impl_IsValue = true := by kernel_rfl
theorem k236 : chkFn Try.prog num 236 a_impl_valueText = true := by kernel_rfl
theorem k96 : chkFn Try.prog num 96 a_impl_digitsOf = true := by kernel_rfl
theorem k61 : chkFn Try.prog num 61 a_laws_eqStep = true := by kernel_rfl
theorem k103 : chkFn Try.prog num 103 a_laws_eqStringS = true := by kernel_rfl
theorem k104 : chkFn Try.prog num 104 a_laws_eqValueS = true := by kernel_rfl
theorem k62 : chkFn Try.prog num 62 a_spec_IsName = true := by kernel_rfl
theorem k63 : chkFn Try.prog num 63 a_spec_l1In = true := by kernel_rfl
theorem k212 : chkFn Try.prog num 212 a_spec_l5Left = true := by kernel_rfl
theorem k213 : chkFn Try.prog num 213 a_spec_l5Form = true := by kernel_rfl
theorem k243 : chkFn Try.prog num 243 a_spec_Join = true := by kernel_rfl
theorem k64 : chkFn Try.prog num 64 a_impl_IsName = true := by kernel_rfl
theorem k74 : chkFn Try.prog num 74 a_impl_SizeOfValue = true := by kernel_rfl
theorem k216 : chkFn Try.prog num 216 a_impl_valueFormed = true := by kernel_rfl
theorem k244 : chkFn Try.prog num 244 a_impl_Join = true := by kernel_rfl
theorem k240 : chkFn Try.prog num 240 a_spec_l3Labels = true := by kernel_rfl
theorem k95 : chkFn Try.prog num 95 a_impl_nameByte = true := by kernel_rfl
theorem k241 : chkFn Try.prog num 241 a_impl_labelsOk = true := by kernel_rfl
theorem k245 : chkFn Try.prog num 245 a_spec_AreAscending = true := by kernel_rfl
theorem k246 : chkFn Try.prog num 246 a_impl_AreAscending = true := by kernel_rfl
theorem tabHF : ∀ k fd, tab k = some fd → ∃ fn c, FnOk Try.prog num k fd fn c := by
  intro k fd h
  unfold tab at h
  split at h
  · injection h with h; subst h; exact chkFn_ _ _ k143
  · injection h with h; subst h; exact chkFn_ _ _ k71
  · injection h with h; subst h; exact chkFn_ _ _ k73
  · injection h with h; subst h; exact chkFn_ _ _ k168
  · injection h with h; subst h; exact chkFn_ _ _ k169
  · injection h with h; subst h; exact chkFn_ _ _ k75
  · injection h with h; subst h; exact chkFn_ _ _ k11
  · injection h with h; subst h; exact chkFn_ _ _ k76
  · injection h with h; subst h; exact chkFn_ _ _ k13
  · injection h with h; subst h; exact chkFn_ _ _ k78
  · injection h with h; subst h; exact chkFn_ _ _ k39
  · injection h with h; subst h; exact chkFn_ _ _ k200
  · injection h with h; subst h; exact chkFn_ _ _ k69
  · injection h with h; subst h; exact chkFn_ _ _ k40
  · injection h with h; subst h; exact chkFn_ _ _ k201
  · injection h with h; subst h; exact chkFn_ _ _ k70
  · injection h with h; subst h; exact chkFn_ _ _ k15
  · injection h with h; subst h; exact chkFn_ _ _ k81
  · injection h with h; subst h; exact chkFn_ _ _ k59
  · injection h with h; subst h; exact chkFn_ _ _ k97
  · injection h with h; subst h; exact chkFn_ _ _ k98
  · injection h with h; subst h; exact chkFn_ _ _ k60
  · injection h with h; subst h; exact chkFn_ _ _ k100
  · injection h with h; subst h; exact chkFn_ _ _ k101
  · injection h with h; subst h; exact chkFn_ _ _ k16
  · injection h with h; subst h; exact chkFn_ _ _ k180
  · injection h with h; subst h; exact chkFn_ _ _ k235
  · injection h with h; subst h; exact chkFn_ _ _ k17
  · injection h with h; subst h; exact chkFn_ _ _ k182
  · injection h with h; subst h; exact chkFn_ _ _ k236
  · injection h with h; subst h; exact chkFn_ _ _ k96
  · injection h with h; subst h; exact chkFn_ _ _ k61
  · injection h with h; subst h; exact chkFn_ _ _ k103
  · injection h with h; subst h; exact chkFn_ _ _ k104
  · injection h with h; subst h; exact chkFn_ _ _ k62
  · injection h with h; subst h; exact chkFn_ _ _ k63
  · injection h with h; subst h; exact chkFn_ _ _ k212
  · injection h with h; subst h; exact chkFn_ _ _ k213
  · injection h with h; subst h; exact chkFn_ _ _ k243
  · injection h with h; subst h; exact chkFn_ _ _ k64
  · injection h with h; subst h; exact chkFn_ _ _ k74
  · injection h with h; subst h; exact chkFn_ _ _ k216
  · injection h with h; subst h; exact chkFn_ _ _ k244
  · injection h with h; subst h; exact chkFn_ _ _ k240
  · injection h with h; subst h; exact chkFn_ _ _ k95
  · injection h with h; subst h; exact chkFn_ _ _ k241
  · injection h with h; subst h; exact chkFn_ _ _ k245
  · injection h with h; subst h; exact chkFn_ _ _ k246
  · cases h
end Go.Proofs.Ytkiliooegoldoaa
