/- The functions of the claim, as decision trees. -/
import Derived.Test.YtkiliooegoldoaaTab
import Derived.Test.YtkiliooegoldoaaE6
set_option maxRecDepth 100000
namespace Go.Proofs.Ytkiliooegoldoaa
open Go

/-- laws.FnExactEditText -/
def t143 : Tr :=
  (.call 71 [[vf 0, vs 1, vf 2, vf 3, vf 4, vs 5, vs 6, vf 7], [.c (I 1048576)]] [[true]]
  (.lett ⟨(.bin .lss), [vf 8, .c (I 0)], true⟩
  (.ite (vf 9)
   (.ret [[.c (.bool true)]])
   (.call 73 [[vf 0, vs 1, vf 2, vf 3, vf 4, vs 5, vs 6, vf 7]] [[true, false, true, true, true, false, false, true]]
   (.call 168 [[vf 10, vs 11, vf 12, vf 13, vf 14, vs 15, vs 16, vf 17]] [[true]]
   (.call 73 [[vf 0, vs 1, vf 2, vf 3, vf 4, vs 5, vs 6, vf 7]] [[true, false, true, true, true, false, false, true]]
   (.call 169 [[vf 19, vs 20, vf 21, vf 22, vf 23, vs 24, vs 25, vf 26]] [[true]]
   (.lett ⟨(.bin .neq), [vf 27, vf 18], true⟩
   (.ite (vf 28)
    (.ret [[.c (.bool false)]])
    (.call 73 [[vf 0, vs 1, vf 2, vf 3, vf 4, vs 5, vs 6, vf 7]] [[true, false, true, true, true, false, false, true]]
    (.call 75 [[vf 19, vs 20, vf 21, vf 22, vf 23, vs 24, vs 25, vf 26], [vf 29, vs 30, vf 31, vf 32, vf 33, vs 34, vs 35, vf 36]] [[true]]
    (.lett ⟨(.un .not), [vf 37], true⟩
    (.ite (vf 38)
     (.ret [[.c (.bool false)]])
     (.ret [[.c (.bool true)]]))))))))))))))
theorem c143 : compFn tab (hof [(7, [[true, false, true, true, true, false, false, true]]), (9, [[true]]), (12, [[true, false, true, true, true, false, false, true]]), (13, [[true, false, true, true, true, false, false, true]]), (14, [[true]]), (15, [[true, false, true, true, true, false, false, true]]), (16, [[true, false, true, true, true, false, false, true]]), (17, [[true, false, true, true, true, false, false, true]]), (18, [[true]]), (22, [[true, false, true, true, true, false, false, true]]), (23, [[true, false, true, true, true, false, false, true]]), (24, [[true, false, true, true, true, false, false, true]]), (25, [[true]])]) a_laws_FnExactEditText [[true, false, true, true, true, false, false, true]] = some t143 := by kernel_rfl

/-- laws.szEdit -/
def t71 : Tr :=
  (.call 11 [[vs 1], [vf 8]] [[true]]
  (.lett ⟨(.bin .lss), [vf 9, .c (I 0)], true⟩
  (.ite (vf 10)
   (.ret [[.c (I (-1))]])
   (.call 76 [[vf 2, vf 3, vf 4, vs 5, vs 6], [vf 9]] [[true]]
   (.lett ⟨(.bin .lss), [vf 11, .c (I 0)], true⟩
   (.ite (vf 12)
    (.ret [[.c (I (-1))]])
    (.ret [[vf 11]])))))))
theorem c71 : compFn tab (hof [(6, [[false]]), (8, [[true]]), (12, [[true, true, true, false, false]]), (14, [[true]])]) a_laws_szEdit [[true, false, true, true, true, false, false, true], [true]] = some t71 := by kernel_rfl

/-- laws.toEdit -/
def t73 : Tr :=
  (.call 13 [[vs 1]] [[false]]
  (.call 78 [[vf 2, vf 3, vf 4, vs 5, vs 6]] [[true, true, true, false, false]]
  (.ret [[vf 0, vs 8, vf 9, vf 10, vf 11, vs 12, vs 13, vf 7]])))
theorem c73 : compFn tab (hof [(5, [[true]]), (8, [[false]]), (9, [[false]]), (12, [[true, true, true, false, false]]), (13, [[true, true, true, false, false]]), (16, [[true]]), (18, [[true, false, true, true, true, false, false, true]])]) a_laws_toEdit [[true, false, true, true, true, false, false, true]] = some t73 := by kernel_rfl

/-- spec.EditText -/
def t168 : Tr :=
  (.call 39 [[vs 1]] [[true]]
  (.join 0 [true]
   (.lett ⟨.len, [vs 1], true⟩
   (.lett ⟨(.bin .eql), [vf 9, .c (I 0)], true⟩
   (.ite (vf 10)
    (.again 0 [.c (.str ⟨#[45]⟩)])
    (.again 0 [vf 8]))))
   (.lett ⟨(.bin .eql), [vf 0, .c (I 1)], true⟩
   (.ite (vf 10)
    (.lett ⟨(.bin .add), [.c (.str ⟨#[115, 101, 116, 32]⟩), vf 9], true⟩
    (.lett ⟨(.bin .add), [vf 11, .c (.str ⟨#[32]⟩)], true⟩
    (.call 200 [[vf 2, vf 3, vf 4, vs 5, vs 6]] [[true]]
    (.lett ⟨(.bin .add), [vf 12, vf 13], true⟩
    (.ret [[vf 14]])))))
    (.lett ⟨(.bin .eql), [vf 0, .c (I 2)], true⟩
    (.ite (vf 11)
     (.lett ⟨(.bin .add), [.c (.str ⟨#[105, 110, 115, 101, 114, 116, 32]⟩), vf 9], true⟩
     (.lett ⟨(.bin .add), [vf 12, .c (.str ⟨#[32]⟩)], true⟩
     (.call 69 [[vf 7]] [[true]]
     (.lett ⟨(.bin .add), [vf 13, vf 14], true⟩
     (.lett ⟨(.bin .add), [vf 15, .c (.str ⟨#[32]⟩)], true⟩
     (.call 200 [[vf 2, vf 3, vf 4, vs 5, vs 6]] [[true]]
     (.lett ⟨(.bin .add), [vf 16, vf 17], true⟩
     (.ret [[vf 18]]))))))))
     (.lett ⟨(.bin .eql), [vf 0, .c (I 3)], true⟩
     (.ite (vf 12)
      (.lett ⟨(.bin .add), [.c (.str ⟨#[100, 101, 108, 101, 116, 101, 32]⟩), vf 9], true⟩
      (.lett ⟨(.bin .add), [vf 13, .c (.str ⟨#[32]⟩)], true⟩
      (.call 69 [[vf 7]] [[true]]
      (.lett ⟨(.bin .add), [vf 14, vf 15], true⟩
      (.ret [[vf 16]])))))
      (.ret [[.c (.str ⟨#[]⟩)]])))))))))
theorem c168 : compFn tab (hof [(5, [[false]]), (6, [[true]]), (8, [[false]]), (12, [[true]]), (19, [[true, true, true, false, false]]), (20, [[true]]), (28, [[true]]), (29, [[true]]), (33, [[true, true, true, false, false]]), (34, [[true]]), (42, [[true]]), (43, [[true]])]) a_spec_EditText [[true, false, true, true, true, false, false, true]] = some t168 := by kernel_rfl

/-- impl.EditText -/
def t169 : Tr :=
  (.call 40 [[vs 1]] [[true]]
  (.join 0 [true]
   (.lett ⟨.len, [vs 1], true⟩
   (.lett ⟨(.bin .eql), [vf 9, .c (I 0)], true⟩
   (.ite (vf 10)
    (.again 0 [.c (.str ⟨#[45]⟩)])
    (.again 0 [vf 8]))))
   (.lett ⟨(.bin .eql), [vf 0, .c (I 1)], true⟩
   (.ite (vf 10)
    (.lett ⟨(.bin .add), [.c (.str ⟨#[115, 101, 116, 32]⟩), vf 9], true⟩
    (.lett ⟨(.bin .add), [vf 11, .c (.str ⟨#[32]⟩)], true⟩
    (.call 201 [[vf 2, vf 3, vf 4, vs 5, vs 6]] [[true]]
    (.lett ⟨(.bin .add), [vf 12, vf 13], true⟩
    (.ret [[vf 14]])))))
    (.lett ⟨(.bin .eql), [vf 0, .c (I 2)], true⟩
    (.ite (vf 11)
     (.lett ⟨(.bin .add), [.c (.str ⟨#[105, 110, 115, 101, 114, 116, 32]⟩), vf 9], true⟩
     (.lett ⟨(.bin .add), [vf 12, .c (.str ⟨#[32]⟩)], true⟩
     (.call 70 [[vf 7]] [[true]]
     (.lett ⟨(.bin .add), [vf 13, vf 14], true⟩
     (.lett ⟨(.bin .add), [vf 15, .c (.str ⟨#[32]⟩)], true⟩
     (.call 201 [[vf 2, vf 3, vf 4, vs 5, vs 6]] [[true]]
     (.lett ⟨(.bin .add), [vf 16, vf 17], true⟩
     (.ret [[vf 18]]))))))))
     (.lett ⟨(.bin .eql), [vf 0, .c (I 3)], true⟩
     (.ite (vf 12)
      (.lett ⟨(.bin .add), [.c (.str ⟨#[100, 101, 108, 101, 116, 101, 32]⟩), vf 9], true⟩
      (.lett ⟨(.bin .add), [vf 13, .c (.str ⟨#[32]⟩)], true⟩
      (.call 70 [[vf 7]] [[true]]
      (.lett ⟨(.bin .add), [vf 14, vf 15], true⟩
      (.ret [[vf 16]])))))
      (.ret [[.c (.str ⟨#[]⟩)]])))))))))
theorem c169 : compFn tab (hof [(5, [[false]]), (6, [[true]]), (8, [[false]]), (12, [[true]]), (19, [[true, true, true, false, false]]), (20, [[true]]), (28, [[true]]), (29, [[true]]), (33, [[true, true, true, false, false]]), (34, [[true]]), (42, [[true]]), (43, [[true]])]) a_impl_EditText [[true, false, true, true, true, false, false, true]] = some t169 := by kernel_rfl

/-- laws.eqEdit -/
def t75 : Tr :=
  (.lett ⟨(.bin .neq), [vf 0, vf 8], true⟩
  (.ite (vf 16)
   (.ret [[.c (.bool false)]])
   (.call 15 [[vs 1], [vs 9]] [[true]]
   (.lett ⟨(.un .not), [vf 17], true⟩
   (.ite (vf 18)
    (.ret [[.c (.bool false)]])
    (.call 81 [[vf 2, vf 3, vf 4, vs 5, vs 6], [vf 10, vf 11, vf 12, vs 13, vs 14]] [[true]]
    (.lett ⟨(.un .not), [vf 19], true⟩
    (.ite (vf 20)
     (.ret [[.c (.bool false)]])
     (.lett ⟨(.bin .neq), [vf 7, vf 15], true⟩
     (.ite (vf 21)
      (.ret [[.c (.bool false)]])
      (.ret [[.c (.bool true)]])))))))))))
theorem c75 : compFn tab (hof [(6, [[true]]), (8, [[true]]), (11, [[false]]), (13, [[false]]), (14, [[true]]), (17, [[true, true, true, false, false]]), (19, [[true, true, true, false, false]]), (20, [[true]]), (23, [[true]]), (25, [[true]])]) a_laws_eqEdit [[true, false, true, true, true, false, false, true], [true, false, true, true, true, false, false, true]] = some t75 := by kernel_rfl

/-- laws.szStepS -/
def t11 : Tr :=
  (.lett ⟨.len, [vs 0], true⟩
  (.lett ⟨(.bin .sub), [vf 1, vf 2], true⟩
  (.lett ⟨(.bin .lss), [vf 3, .c (I 0)], true⟩
  (.ite (vf 4)
   (.ret [[.c (I (-1))]])
   (.loop 0 [vf 3, .c (I 0)]
    (.lett ⟨.len, [vs 0], true⟩
    (.lett ⟨(.bin .lss), [vf 6, vf 7], true⟩
    (.ite (vf 8)
     (.lett ⟨(.inb 3), [vs 0, vf 6], true⟩
     (.lett ⟨(.get [(3, 0)]), [vs 0, vf 6], true⟩
     (.lett ⟨(.get [(3, 1)]), [vs 0, vf 6], true⟩
     (.lett ⟨(.get [(3, 2)]), [vs 0, vf 6], true⟩
     (.call 59 [[vf 10, vf 11, vf 12], [vf 5]] [[true]]
     (.lett ⟨(.bin .lss), [vf 13, .c (I 0)], true⟩
     (.ite (vf 14)
      (.ret [[.c (I (-1))]])
      (.lett ⟨(.bin .add), [vf 6, .c (I 1)], true⟩
      (.again 0 [vf 13, vf 15])))))))))
     (.ret [[vf 5]])))))))))
theorem c11 : compFn tab (hof [(21, [[true, true, true]]), (23, [[true]])]) a_laws_szStepS [[false], [true]] = some t11 := by kernel_rfl

/-- laws.szValue -/
def t76 : Tr :=
  (.lett ⟨.lenS, [vf 2], true⟩
  (.lett ⟨(.bin .sub), [vf 5, vf 6], true⟩
  (.lett ⟨(.bin .lss), [vf 7, .c (I 0)], true⟩
  (.ite (vf 8)
   (.ret [[.c (I (-1))]])
   (.call 97 [[vs 3], [vf 7]] [[true]]
   (.lett ⟨(.bin .lss), [vf 9, .c (I 0)], true⟩
   (.ite (vf 10)
    (.ret [[.c (I (-1))]])
    (.call 98 [[vs 4], [vf 9]] [[true]]
    (.lett ⟨(.bin .lss), [vf 11, .c (I 0)], true⟩
    (.ite (vf 12)
     (.ret [[.c (I (-1))]])
     (.ret [[vf 11]])))))))))))
theorem c76 : compFn tab (hof [(7, [[true]]), (13, [[false]]), (15, [[true]]), (19, [[false]]), (21, [[true]])]) a_laws_szValue [[true, true, true, false, false], [true]] = some t76 := by kernel_rfl

/-- laws.toStepS -/
def t13 : Tr :=
  (.lett ⟨.len, [vs 0], true⟩
  (.lett ⟨(.make 3 [(I 0), (.str ⟨#[]⟩), (I 0)]), [vf 1], false⟩
  (.loop 0 [vs 2, .c (I 0)]
   (.lett ⟨.len, [vs 0], true⟩
   (.lett ⟨(.bin .lss), [vf 4, vf 5], true⟩
   (.ite (vf 6)
    (.lett ⟨(.inb 3), [vs 0, vf 4], true⟩
    (.lett ⟨(.get [(3, 0)]), [vs 0, vf 4], true⟩
    (.lett ⟨(.get [(3, 1)]), [vs 0, vf 4], true⟩
    (.lett ⟨(.get [(3, 2)]), [vs 0, vf 4], true⟩
    (.call 60 [[vf 8, vf 9, vf 10]] [[true, true, true]]
    (.lett ⟨(.inb 3), [vs 3, vf 4], true⟩
    (.lett ⟨(.set [(3, 0)]), [vs 3, vf 4, vf 11, vf 12, vf 13], false⟩
    (.lett ⟨(.bin .add), [vf 4, .c (I 1)], true⟩
    (.again 0 [vs 15, vf 16])))))))))
    (.ret [[vs 3]])))))))
theorem c13 : compFn tab (hof [(19, [[true, true, true]]), (20, [[true, true, true]])]) a_laws_toStepS [[false]] = some t13 := by kernel_rfl

/-- laws.toValue -/
def t78 : Tr :=
  (.call 100 [[vs 3]] [[false]]
  (.call 101 [[vs 4]] [[false]]
  (.ret [[vf 0, vf 1, vf 2, vs 5, vs 6]])))
theorem c78 : compFn tab (hof [(5, [[true]]), (8, [[true]]), (11, [[true]]), (14, [[false]]), (15, [[false]]), (18, [[false]]), (19, [[false]]), (21, [[true, true, true, false, false]])]) a_laws_toValue [[true, true, true, false, false]] = some t78 := by kernel_rfl

/-- spec.PathText -/
def t39 : Tr :=
  (.call 16 [[vs 0]] [[true]]
  (.lett ⟨(.un .not), [vf 1], true⟩
  (.ite (vf 2)
   (.ret [[.c (.str ⟨#[]⟩)]])
   (.loop 0 [.c (.str ⟨#[]⟩), .c (I 0)]
    (.lett ⟨.len, [vs 0], true⟩
    (.lett ⟨(.bin .lss), [vf 4, vf 5], true⟩
    (.ite (vf 6)
     (.lett ⟨(.inb 3), [vs 0, vf 4], true⟩
     (.lett ⟨(.get [(3, 0)]), [vs 0, vf 4], true⟩
     (.lett ⟨(.bin .eql), [vf 8, .c (I 1)], true⟩
     (.ite (vf 9)
      (.lett ⟨(.bin .add), [vf 3, .c (.str ⟨#[46]⟩)], true⟩
      (.lett ⟨(.inb 3), [vs 0, vf 4], true⟩
      (.lett ⟨(.get [(3, 1)]), [vs 0, vf 4], true⟩
      (.lett ⟨(.bin .add), [vf 10, vf 12], true⟩
      (.lett ⟨(.bin .add), [vf 4, .c (I 1)], true⟩
      (.again 0 [vf 13, vf 14]))))))
      (.lett ⟨(.bin .eql), [vf 8, .c (I 2)], true⟩
      (.ite (vf 10)
       (.lett ⟨(.bin .add), [vf 3, .c (.str ⟨#[63]⟩)], true⟩
       (.lett ⟨(.inb 3), [vs 0, vf 4], true⟩
       (.lett ⟨(.get [(3, 1)]), [vs 0, vf 4], true⟩
       (.lett ⟨(.bin .add), [vf 11, vf 13], true⟩
       (.lett ⟨(.bin .add), [vf 4, .c (I 1)], true⟩
       (.again 0 [vf 14, vf 15]))))))
       (.lett ⟨(.bin .eql), [vf 8, .c (I 3)], true⟩
       (.ite (vf 11)
        (.lett ⟨(.bin .add), [vf 3, .c (.str ⟨#[35]⟩)], true⟩
        (.lett ⟨(.inb 3), [vs 0, vf 4], true⟩
        (.lett ⟨(.get [(3, 2)]), [vs 0, vf 4], true⟩
        (.call 69 [[vf 14]] [[true]]
        (.lett ⟨(.bin .add), [vf 12, vf 15], true⟩
        (.lett ⟨(.bin .add), [vf 4, .c (I 1)], true⟩
        (.again 0 [vf 16, vf 17])))))))
        (.lett ⟨(.bin .add), [vf 4, .c (I 1)], true⟩
        (.again 0 [vf 3, vf 12]))))))))))
     (.ret [[vf 3]]))))))))
theorem c39 : compFn tab (hof [(6, [[true]]), (18, [[true]]), (27, [[true]]), (37, [[true]]), (47, [[true]]), (48, [[true]])]) a_spec_PathText [[false]] = some t39 := by kernel_rfl

/-- spec.FormatValue -/
def t200 : Tr :=
  (.call 180 [[vf 0, vf 1, vf 2, vs 3, vs 4]] [[true]]
  (.lett ⟨(.un .not), [vf 5], true⟩
  (.ite (vf 6)
   (.ret [[.c (.str ⟨#[]⟩)]])
   (.call 235 [[vf 0, vf 1, vf 2, vs 3, vs 4]] [[true]]
   (.ret [[vf 7]])))))
theorem c200 : compFn tab (hof [(3, [[true, true, true, false, false]]), (4, [[true]]), (6, [[true, true, true, false, false]]), (7, [[true]])]) a_spec_FormatValue [[true, true, true, false, false]] = some t200 := by kernel_rfl

/-- spec.FormatInt -/
def t69 : Tr :=
  (.lett ⟨(.bin .eql), [vf 0, .c (I 0)], true⟩
  (.ite (vf 1)
   (.ret [[.c (.str ⟨#[48]⟩)]])
   (.lett ⟨(.bin .lss), [vf 0, .c (I 0)], true⟩
   (.loop 0 [vf 0, .c (.str ⟨#[]⟩)]
    (.lett ⟨(.bin .neq), [vf 3, .c (I 0)], true⟩
    (.ite (vf 5)
     (.lett ⟨(.bin .rem), [vf 3, .c (I 10)], true⟩
     (.join 1 [true]
      (.lett ⟨(.bin .lss), [vf 6, .c (I 0)], true⟩
      (.ite (vf 7)
       (.lett ⟨(.bin .sub), [.c (I 0), vf 6], true⟩
       (.again 1 [vf 8]))
       (.again 1 [vf 6])))
      (.lett ⟨(.bin .add), [.c (I 48), vf 7], true⟩
      (.lett ⟨(.conv .u8), [vf 8], true⟩
      (.lett ⟨(.mk 1 [1]), [vf 9], false⟩
      (.lett ⟨.bytesStr, [vs 10], true⟩
      (.lett ⟨(.bin .add), [vf 11, vf 4], true⟩
      (.lett ⟨(.bin .quo), [vf 3, .c (I 10)], true⟩
      (.again 0 [vf 13, vf 12])))))))))
     (.ite (vf 2)
      (.lett ⟨(.bin .add), [.c (.str ⟨#[45]⟩), vf 4], true⟩
      (.ret [[vf 6]]))
      (.ret [[vf 4]]))))))))
theorem c69 : compFn tab (hof []) a_spec_FormatInt [[true]] = some t69 := by kernel_rfl

/-- impl.PathText -/
def t40 : Tr :=
  (.call 17 [[vs 0]] [[true]]
  (.lett ⟨(.un .not), [vf 1], true⟩
  (.ite (vf 2)
   (.ret [[.c (.str ⟨#[]⟩)]])
   (.lett ⟨.len, [vs 0], true⟩
   (.loop 0 [.c (.str ⟨#[]⟩), .c (I 0)]
    (.lett ⟨(.bin .lss), [vf 5, vf 3], true⟩
    (.ite (vf 6)
     (.lett ⟨(.inb 3), [vs 0, vf 5], true⟩
     (.lett ⟨(.get [(3, 0)]), [vs 0, vf 5], true⟩
     (.lett ⟨(.get [(3, 1)]), [vs 0, vf 5], true⟩
     (.lett ⟨(.get [(3, 2)]), [vs 0, vf 5], true⟩
     (.lett ⟨(.bin .eql), [vf 8, .c (I 1)], true⟩
     (.ite (vf 11)
      (.lett ⟨(.bin .add), [.c (.str ⟨#[46]⟩), vf 9], true⟩
      (.lett ⟨(.bin .add), [vf 4, vf 12], true⟩
      (.lett ⟨(.bin .add), [vf 5, .c (I 1)], true⟩
      (.again 0 [vf 13, vf 14]))))
      (.lett ⟨(.bin .eql), [vf 8, .c (I 2)], true⟩
      (.ite (vf 12)
       (.lett ⟨(.bin .add), [.c (.str ⟨#[63]⟩), vf 9], true⟩
       (.lett ⟨(.bin .add), [vf 4, vf 13], true⟩
       (.lett ⟨(.bin .add), [vf 5, .c (I 1)], true⟩
       (.again 0 [vf 14, vf 15]))))
       (.call 70 [[vf 10]] [[true]]
       (.lett ⟨(.bin .add), [.c (.str ⟨#[35]⟩), vf 13], true⟩
       (.lett ⟨(.bin .add), [vf 4, vf 14], true⟩
       (.lett ⟨(.bin .add), [vf 5, .c (I 1)], true⟩
       (.again 0 [vf 15, vf 16])))))))))))))
     (.ret [[vf 4]]))))))))
theorem c40 : compFn tab (hof [(7, [[true]]), (14, [[true, true, true]]), (16, [[true]]), (19, [[true]]), (20, [[true]]), (27, [[true]]), (34, [[true]])]) a_impl_PathText [[false]] = some t40 := by kernel_rfl

/-- impl.FormatValue -/
def t201 : Tr :=
  (.call 182 [[vf 0, vf 1, vf 2, vs 3, vs 4]] [[true]]
  (.lett ⟨(.un .not), [vf 5], true⟩
  (.ite (vf 6)
   (.ret [[.c (.str ⟨#[]⟩)]])
   (.call 236 [[vf 0, vf 1, vf 2, vs 3, vs 4]] [[true]]
   (.ret [[vf 7]])))))
theorem c201 : compFn tab (hof [(3, [[true, true, true, false, false]]), (4, [[true]]), (6, [[true, true, true, false, false]]), (7, [[true]])]) a_impl_FormatValue [[true, true, true, false, false]] = some t201 := by kernel_rfl

/-- impl.FormatInt -/
def t70 : Tr :=
  (.lett ⟨(.bin .lss), [vf 0, .c (I 0)], true⟩
  (.ite (vf 1)
   (.lett ⟨(.conv .u64), [vf 0], true⟩
   (.lett ⟨(.un .neg), [vf 2], true⟩
   (.call 96 [[vf 3]] [[true]]
   (.lett ⟨(.bin .add), [.c (.str ⟨#[45]⟩), vf 4], true⟩
   (.ret [[vf 5]])))))
   (.lett ⟨(.conv .u64), [vf 0], true⟩
   (.call 96 [[vf 2]] [[true]]
   (.ret [[vf 3]])))))
theorem c70 : compFn tab (hof [(8, [[true]]), (12, [[true]])]) a_impl_FormatInt [[true]] = some t70 := by kernel_rfl

/-- laws.eqStepS -/
def t15 : Tr :=
  (.lett ⟨.len, [vs 0], true⟩
  (.lett ⟨.len, [vs 1], true⟩
  (.lett ⟨(.bin .neq), [vf 2, vf 3], true⟩
  (.ite (vf 4)
   (.ret [[.c (.bool false)]])
   (.loop 0 [.c (I 0)]
    (.lett ⟨.len, [vs 0], true⟩
    (.lett ⟨(.bin .lss), [vf 5, vf 6], true⟩
    (.ite (vf 7)
     (.lett ⟨(.inb 3), [vs 0, vf 5], true⟩
     (.lett ⟨(.get [(3, 0)]), [vs 0, vf 5], true⟩
     (.lett ⟨(.get [(3, 1)]), [vs 0, vf 5], true⟩
     (.lett ⟨(.get [(3, 2)]), [vs 0, vf 5], true⟩
     (.lett ⟨(.inb 3), [vs 1, vf 5], true⟩
     (.lett ⟨(.get [(3, 0)]), [vs 1, vf 5], true⟩
     (.lett ⟨(.get [(3, 1)]), [vs 1, vf 5], true⟩
     (.lett ⟨(.get [(3, 2)]), [vs 1, vf 5], true⟩
     (.call 61 [[vf 9, vf 10, vf 11], [vf 13, vf 14, vf 15]] [[true]]
     (.lett ⟨(.un .not), [vf 16], true⟩
     (.ite (vf 17)
      (.ret [[.c (.bool false)]])
      (.lett ⟨(.bin .add), [vf 5, .c (I 1)], true⟩
      (.again 0 [vf 18])))))))))))))
     (.ret [[.c (.bool true)]])))))))))
theorem c15 : compFn tab (hof [(20, [[true, true, true]]), (24, [[true, true, true]]), (25, [[true]])]) a_laws_eqStepS [[false], [false]] = some t15 := by kernel_rfl

/-- laws.eqValue -/
def t81 : Tr :=
  (.lett ⟨(.bin .neq), [vf 0, vf 5], true⟩
  (.ite (vf 10)
   (.ret [[.c (.bool false)]])
   (.lett ⟨(.bin .neq), [vf 1, vf 6], true⟩
   (.ite (vf 11)
    (.ret [[.c (.bool false)]])
    (.lett ⟨(.bin .neq), [vf 2, vf 7], true⟩
    (.ite (vf 12)
     (.ret [[.c (.bool false)]])
     (.call 103 [[vs 3], [vs 8]] [[true]]
     (.lett ⟨(.un .not), [vf 13], true⟩
     (.ite (vf 14)
      (.ret [[.c (.bool false)]])
      (.call 104 [[vs 4], [vs 9]] [[true]]
      (.lett ⟨(.un .not), [vf 15], true⟩
      (.ite (vf 16)
       (.ret [[.c (.bool false)]])
       (.ret [[.c (.bool true)]])))))))))))))
theorem c81 : compFn tab (hof [(6, [[true]]), (8, [[true]]), (11, [[true]]), (13, [[true]]), (16, [[true]]), (18, [[true]]), (21, [[false]]), (23, [[false]]), (24, [[true]]), (27, [[false]]), (29, [[false]]), (30, [[true]])]) a_laws_eqValue [[true, true, true, false, false], [true, true, true, false, false]] = some t81 := by kernel_rfl

/-- laws.szStep -/
def t59 : Tr :=
  (.lett ⟨.lenS, [vf 1], true⟩
  (.lett ⟨(.bin .sub), [vf 3, vf 4], true⟩
  (.lett ⟨(.bin .lss), [vf 5, .c (I 0)], true⟩
  (.ite (vf 6)
   (.ret [[.c (I (-1))]])
   (.ret [[vf 5]])))))
theorem c59 : compFn tab (hof [(7, [[true]])]) a_laws_szStep [[true, true, true], [true]] = some t59 := by kernel_rfl

/-- laws.szStringS -/
def t97 : Tr :=
  (.lett ⟨.len, [vs 0], true⟩
  (.lett ⟨(.bin .sub), [vf 1, vf 2], true⟩
  (.lett ⟨(.bin .lss), [vf 3, .c (I 0)], true⟩
  (.ite (vf 4)
   (.ret [[.c (I (-1))]])
   (.loop 0 [vf 3, .c (I 0)]
    (.lett ⟨.len, [vs 0], true⟩
    (.lett ⟨(.bin .lss), [vf 6, vf 7], true⟩
    (.ite (vf 8)
     (.lett ⟨(.inb 1), [vs 0, vf 6], true⟩
     (.lett ⟨(.get [(1, 0)]), [vs 0, vf 6], true⟩
     (.lett ⟨.lenS, [vf 10], true⟩
     (.lett ⟨(.bin .sub), [vf 5, vf 11], true⟩
     (.lett ⟨(.bin .lss), [vf 12, .c (I 0)], true⟩
     (.ite (vf 13)
      (.ret [[.c (I (-1))]])
      (.lett ⟨(.bin .add), [vf 6, .c (I 1)], true⟩
      (.again 0 [vf 12, vf 14]))))))))
     (.ret [[vf 5]])))))))))
theorem c97 : compFn tab (hof [(22, [[true]])]) a_laws_szStringS [[false], [true]] = some t97 := by kernel_rfl

/-- laws.szValueS -/
def t98 : Tr :=
  (.lett ⟨.len, [vs 0], true⟩
  (.lett ⟨(.bin .sub), [vf 1, vf 2], true⟩
  (.lett ⟨(.bin .lss), [vf 3, .c (I 0)], true⟩
  (.ite (vf 4)
   (.ret [[.c (I (-1))]])
   (.loop 0 [vf 3, .c (I 0)]
    (.lett ⟨.len, [vs 0], true⟩
    (.lett ⟨(.bin .lss), [vf 6, vf 7], true⟩
    (.ite (vf 8)
     (.lett ⟨(.inb 5), [vs 0, vf 6], true⟩
     (.lett ⟨(.get [(5, 0)]), [vs 0, vf 6], true⟩
     (.lett ⟨(.get [(5, 1)]), [vs 0, vf 6], true⟩
     (.lett ⟨(.get [(5, 2)]), [vs 0, vf 6], true⟩
     (.lett ⟨(.get [(5, 3)]), [vs 0, vf 6], false⟩
     (.lett ⟨(.get [(5, 4)]), [vs 0, vf 6], false⟩
     (.call 76 [[vf 10, vf 11, vf 12, vs 13, vs 14], [vf 5]] [[true]]
     (.lett ⟨(.bin .lss), [vf 15, .c (I 0)], true⟩
     (.ite (vf 16)
      (.ret [[.c (I (-1))]])
      (.lett ⟨(.bin .add), [vf 6, .c (I 1)], true⟩
      (.again 0 [vf 15, vf 17])))))))))))
     (.ret [[vf 5]])))))))))
theorem c98 : compFn tab (hof [(21, [[true, true, true, false, false]]), (23, [[true]])]) a_laws_szValueS [[false], [true]] = some t98 := by kernel_rfl

/-- laws.toStep -/
def t60 : Tr :=
  (.ret [[vf 0, vf 1, vf 2]])
theorem c60 : compFn tab (hof [(5, [[true]]), (8, [[true]]), (11, [[true]]), (13, [[true, true, true]])]) a_laws_toStep [[true, true, true]] = some t60 := by kernel_rfl

/-- laws.toStringS -/
def t100 : Tr :=
  (.lett ⟨.len, [vs 0], true⟩
  (.lett ⟨(.make 1 [(.str ⟨#[]⟩)]), [vf 1], false⟩
  (.loop 0 [vs 2, .c (I 0)]
   (.lett ⟨.len, [vs 0], true⟩
   (.lett ⟨(.bin .lss), [vf 4, vf 5], true⟩
   (.ite (vf 6)
    (.lett ⟨(.inb 1), [vs 0, vf 4], true⟩
    (.lett ⟨(.get [(1, 0)]), [vs 0, vf 4], true⟩
    (.lett ⟨(.inb 1), [vs 3, vf 4], true⟩
    (.lett ⟨(.set [(1, 0)]), [vs 3, vf 4, vf 8], false⟩
    (.lett ⟨(.bin .add), [vf 4, .c (I 1)], true⟩
    (.again 0 [vs 10, vf 11]))))))
    (.ret [[vs 3]])))))))
theorem c100 : compFn tab (hof [(19, [[true]])]) a_laws_toStringS [[false]] = some t100 := by kernel_rfl

/-- laws.toValueS -/
def t101 : Tr :=
  (.lett ⟨.len, [vs 0], true⟩
  (.lett ⟨(.make 5 [(I 0), (I 0), (.str ⟨#[]⟩), (Z 1), (Z 5)]), [vf 1], false⟩
  (.loop 0 [vs 2, .c (I 0)]
   (.lett ⟨.len, [vs 0], true⟩
   (.lett ⟨(.bin .lss), [vf 4, vf 5], true⟩
   (.ite (vf 6)
    (.lett ⟨(.inb 5), [vs 0, vf 4], true⟩
    (.lett ⟨(.get [(5, 0)]), [vs 0, vf 4], true⟩
    (.lett ⟨(.get [(5, 1)]), [vs 0, vf 4], true⟩
    (.lett ⟨(.get [(5, 2)]), [vs 0, vf 4], true⟩
    (.lett ⟨(.get [(5, 3)]), [vs 0, vf 4], false⟩
    (.lett ⟨(.get [(5, 4)]), [vs 0, vf 4], false⟩
    (.call 78 [[vf 8, vf 9, vf 10, vs 11, vs 12]] [[true, true, true, false, false]]
    (.lett ⟨(.inb 5), [vs 3, vf 4], true⟩
    (.lett ⟨(.set [(5, 0)]), [vs 3, vf 4, vf 13, vf 14, vf 15, vs 16, vs 17], false⟩
    (.lett ⟨(.bin .add), [vf 4, .c (I 1)], true⟩
    (.again 0 [vs 19, vf 20])))))))))))
    (.ret [[vs 3]])))))))
theorem c101 : compFn tab (hof [(19, [[true, true, true, false, false]]), (20, [[true, true, true, false, false]])]) a_laws_toValueS [[false]] = some t101 := by kernel_rfl

/-- spec.IsPath -/
def t16 : Tr :=
  (.loop 0 [.c (I 0)]
   (.lett ⟨.len, [vs 0], true⟩
   (.lett ⟨(.bin .lss), [vf 1, vf 2], true⟩
   (.ite (vf 3)
    (.lett ⟨(.inb 3), [vs 0, vf 1], true⟩
    (.lett ⟨(.get [(3, 0)]), [vs 0, vf 1], true⟩
    (.lett ⟨(.get [(3, 1)]), [vs 0, vf 1], true⟩
    (.lett ⟨(.get [(3, 2)]), [vs 0, vf 1], true⟩
    (.join 1 [true]
     (.lett ⟨(.bin .eql), [vf 5, .c (I 1)], true⟩
     (.ite (vf 8)
      (.again 1 [.c (.bool true)])
      (.lett ⟨(.bin .eql), [vf 5, .c (I 2)], true⟩
      (.again 1 [vf 9]))))
     (.ite (vf 8)
      (.call 62 [[vf 6]] [[true]]
      (.lett ⟨(.un .not), [vf 9], true⟩
      (.ite (vf 10)
       (.ret [[.c (.bool false)]])
       (.lett ⟨(.bin .neq), [vf 7, .c (I 0)], true⟩
       (.ite (vf 11)
        (.ret [[.c (.bool false)]])
        (.lett ⟨(.bin .add), [vf 1, .c (I 1)], true⟩
        (.again 0 [vf 12])))))))
      (.lett ⟨(.bin .eql), [vf 5, .c (I 3)], true⟩
      (.ite (vf 9)
       (.lett ⟨(.bin .neq), [vf 6, .c (.str ⟨#[]⟩)], true⟩
       (.ite (vf 10)
        (.ret [[.c (.bool false)]])
        (.call 63 [[vf 7], [.c (I 0)], [.c (I 1000)]] [[true]]
        (.lett ⟨(.un .not), [vf 11], true⟩
        (.ite (vf 12)
         (.ret [[.c (.bool false)]])
         (.lett ⟨(.bin .add), [vf 1, .c (I 1)], true⟩
         (.again 0 [vf 13])))))))
       (.ret [[.c (.bool false)]])))))))))
    (.lett ⟨.len, [vs 0], true⟩
    (.lett ⟨(.bin .leq), [vf 4, .c (I 12)], true⟩
    (.ret [[vf 5]])))))))
theorem c16 : compFn tab (hof [(14, [[true, true, true]]), (16, [[true]]), (21, [[true]]), (22, [[true]]), (26, [[true]]), (32, [[true]]), (36, [[true]]), (37, [[true]])]) a_spec_IsPath [[false]] = some t16 := by kernel_rfl

/-- spec.IsValue -/
def t180 : Tr :=
  (.call 212 [[vf 0, vf 1, vf 2, vs 3, vs 4], [.c (I 300)]] [[true]]
  (.lett ⟨(.bin .geq), [vf 5, .c (I 0)], true⟩
  (.ite (vf 6)
   (.call 213 [[vf 0, vf 1, vf 2, vs 3, vs 4]] [[true]]
   (.ret [[vf 7]]))
   (.ret [[.c (.bool false)]]))))
theorem c180 : compFn tab (hof [(3, [[true, true, true, false, false]]), (4, [[true]]), (7, [[true, true, true, false, false]]), (8, [[true]])]) a_spec_IsValue [[true, true, true, false, false]] = some t180 := by kernel_rfl

/-- spec.l6Text -/
def t235 : Tr :=
  (.lett ⟨(.mk 1 []), [], false⟩
  (.loop 0 [vs 5, .c (I 0)]
   (.lett ⟨.len, [vs 4], true⟩
   (.lett ⟨(.bin .lss), [vf 7, vf 8], true⟩
   (.ite (vf 9)
    (.lett ⟨(.inb 5), [vs 4, vf 7], true⟩
    (.lett ⟨(.get [(5, 0)]), [vs 4, vf 7], true⟩
    (.lett ⟨(.get [(5, 1)]), [vs 4, vf 7], true⟩
    (.lett ⟨(.get [(5, 2)]), [vs 4, vf 7], true⟩
    (.lett ⟨(.get [(5, 3)]), [vs 4, vf 7], false⟩
    (.lett ⟨(.get [(5, 4)]), [vs 4, vf 7], false⟩
    (.call 235 [[vf 11, vf 12, vf 13, vs 14, vs 15]] [[true]]
    (.lett ⟨(.bin .eql), [vf 0, .c (I 3)], true⟩
    (.ite (vf 17)
     (.lett ⟨(.inb 1), [vs 3, vf 7], true⟩
     (.lett ⟨(.get [(1, 0)]), [vs 3, vf 7], true⟩
     (.lett ⟨(.bin .add), [vf 19, .c (.str ⟨#[61]⟩)], true⟩
     (.lett ⟨(.bin .add), [vf 20, vf 16], true⟩
     (.lett ⟨(.mk 1 [1]), [vf 21], false⟩
     (.lett ⟨(.app 1 16 false false), [vs 6, vs 22], false⟩
     (.lett ⟨(.bin .add), [vf 7, .c (I 1)], true⟩
     (.again 0 [vs 23, vf 24]))))))))
     (.lett ⟨(.mk 1 [1]), [vf 16], false⟩
     (.lett ⟨(.app 1 16 false false), [vs 6, vs 18], false⟩
     (.lett ⟨(.bin .add), [vf 7, .c (I 1)], true⟩
     (.again 0 [vs 19, vf 20])))))))))))))
    (.lett ⟨(.bin .eql), [vf 0, .c (I 1)], true⟩
    (.ite (vf 10)
     (.call 69 [[vf 1]] [[true]]
     (.ret [[vf 11]]))
     (.lett ⟨(.bin .eql), [vf 0, .c (I 2)], true⟩
     (.ite (vf 11)
      (.lett ⟨(.bin .add), [vf 1, .c (I 1)], true⟩
      (.lett ⟨(.subS true true), [.c (.str ⟨#[102, 116]⟩), vf 1, vf 12], true⟩
      (.lett ⟨(.bin .add), [.c (.str ⟨#[35]⟩), vf 13], true⟩
      (.ret [[vf 14]]))))
      (.lett ⟨(.bin .eql), [vf 0, .c (I 3)], true⟩
      (.ite (vf 12)
       (.call 243 [[vs 6], [.c (.str ⟨#[44]⟩)]] [[true]]
       (.lett ⟨(.bin .add), [.c (.str ⟨#[123]⟩), vf 13], true⟩
       (.lett ⟨(.bin .add), [vf 14, .c (.str ⟨#[125]⟩)], true⟩
       (.ret [[vf 15]]))))
       (.lett ⟨(.bin .eql), [vf 0, .c (I 4)], true⟩
       (.ite (vf 13)
        (.lett ⟨(.bin .add), [.c (.str ⟨#[60]⟩), vf 2], true⟩
        (.lett ⟨(.bin .add), [vf 14, .c (.str ⟨#[32]⟩)], true⟩
        (.lett ⟨(.inb 1), [vs 6, .c (I 0)], true⟩
        (.lett ⟨(.get [(1, 0)]), [vs 6, .c (I 0)], true⟩
        (.lett ⟨(.bin .add), [vf 15, vf 17], true⟩
        (.lett ⟨(.bin .add), [vf 18, .c (.str ⟨#[62]⟩)], true⟩
        (.ret [[vf 19]])))))))
        (.call 243 [[vs 6], [.c (.str ⟨#[44]⟩)]] [[true]]
        (.lett ⟨(.bin .add), [.c (.str ⟨#[91]⟩), vf 14], true⟩
        (.lett ⟨(.bin .add), [vf 15, .c (.str ⟨#[93]⟩)], true⟩
        (.ret [[vf 16]])))))))))))))))))
theorem c235 : compFn tab (hof [(9, [[false]]), (15, [[false]]), (18, [[true, true, true, false, false]]), (19, [[true]]), (21, [[true]]), (24, [[false]]), (27, [[true]]), (36, [[true]]), (40, [[true]]), (41, [[true]]), (45, [[true]]), (47, [[true]]), (54, [[true]]), (60, [[true]]), (65, [[true]]), (69, [[true]])]) a_spec_l6Text [[true, true, true, false, false]] = some t235 := by kernel_rfl

/-- impl.IsPath -/
def t17 : Tr :=
  (.lett ⟨.len, [vs 0], true⟩
  (.lett ⟨(.bin .gtr), [vf 1, .c (I 12)], true⟩
  (.ite (vf 2)
   (.ret [[.c (.bool false)]])
   (.lett ⟨.len, [vs 0], true⟩
   (.loop 0 [.c (I 0)]
    (.lett ⟨(.bin .lss), [vf 4, vf 3], true⟩
    (.ite (vf 5)
     (.lett ⟨(.inb 3), [vs 0, vf 4], true⟩
     (.lett ⟨(.get [(3, 0)]), [vs 0, vf 4], true⟩
     (.lett ⟨(.get [(3, 1)]), [vs 0, vf 4], true⟩
     (.lett ⟨(.get [(3, 2)]), [vs 0, vf 4], true⟩
     (.join 1 [true]
      (.lett ⟨(.bin .eql), [vf 7, .c (I 1)], true⟩
      (.ite (vf 10)
       (.again 1 [.c (.bool true)])
       (.lett ⟨(.bin .eql), [vf 7, .c (I 2)], true⟩
       (.again 1 [vf 11]))))
      (.ite (vf 10)
       (.call 64 [[vf 8]] [[true]]
       (.lett ⟨(.un .not), [vf 11], true⟩
       (.ite (vf 12)
        (.ret [[.c (.bool false)]])
        (.lett ⟨(.bin .neq), [vf 9, .c (I 0)], true⟩
        (.ite (vf 13)
         (.ret [[.c (.bool false)]])
         (.lett ⟨(.bin .add), [vf 4, .c (I 1)], true⟩
         (.again 0 [vf 14])))))))
       (.lett ⟨(.bin .eql), [vf 7, .c (I 3)], true⟩
       (.ite (vf 11)
        (.lett ⟨(.bin .neq), [vf 8, .c (.str ⟨#[]⟩)], true⟩
        (.ite (vf 12)
         (.ret [[.c (.bool false)]])
         (.lett ⟨(.bin .lss), [vf 9, .c (I 0)], true⟩
         (.ite (vf 13)
          (.ret [[.c (.bool false)]])
          (.lett ⟨(.bin .gtr), [vf 9, .c (I 1000)], true⟩
          (.ite (vf 14)
           (.ret [[.c (.bool false)]])
           (.lett ⟨(.bin .add), [vf 4, .c (I 1)], true⟩
           (.again 0 [vf 15]))))))))
        (.ret [[.c (.bool false)]])))))))))
     (.ret [[.c (.bool true)]]))))))))
theorem c17 : compFn tab (hof [(13, [[true, true, true]]), (15, [[true]]), (20, [[true]]), (21, [[true]]), (25, [[true]]), (31, [[true]]), (35, [[true]]), (40, [[true]])]) a_impl_IsPath [[false]] = some t17 := by kernel_rfl

/-- impl.IsValue -/
def t182 : Tr :=
  (.call 74 [[vf 0, vf 1, vf 2, vs 3, vs 4]] [[true]]
  (.lett ⟨(.bin .leq), [vf 5, .c (I 300)], true⟩
  (.ite (vf 6)
   (.call 216 [[vf 0, vf 1, vf 2, vs 3, vs 4]] [[true]]
   (.ret [[vf 7]]))
   (.ret [[.c (.bool false)]]))))
theorem c182 : compFn tab (hof [(3, [[true, true, true, false, false]]), (4, [[true]]), (7, [[true, true, true, false, false]]), (8, [[true]])]) a_impl_IsValue [[true, true, true, false, false]] = some t182 := by kernel_rfl

/-- impl.valueText -/
def t236 : Tr :=
  (.lett ⟨(.bin .eql), [vf 0, .c (I 1)], true⟩
  (.ite (vf 5)
   (.call 70 [[vf 1]] [[true]]
   (.ret [[vf 6]]))
   (.lett ⟨(.bin .eql), [vf 0, .c (I 2)], true⟩
   (.ite (vf 6)
    (.lett ⟨(.bin .eql), [vf 1, .c (I 1)], true⟩
    (.ite (vf 7)
     (.ret [[.c (.str ⟨#[35, 116]⟩)]])
     (.ret [[.c (.str ⟨#[35, 102]⟩)]])))
    (.lett ⟨(.bin .eql), [vf 0, .c (I 4)], true⟩
    (.ite (vf 7)
     (.lett ⟨(.bin .add), [.c (.str ⟨#[60]⟩), vf 2], true⟩
     (.lett ⟨(.bin .add), [vf 8, .c (.str ⟨#[32]⟩)], true⟩
     (.lett ⟨(.inb 5), [vs 4, .c (I 0)], true⟩
     (.lett ⟨(.get [(5, 0)]), [vs 4, .c (I 0)], true⟩
     (.lett ⟨(.get [(5, 1)]), [vs 4, .c (I 0)], true⟩
     (.lett ⟨(.get [(5, 2)]), [vs 4, .c (I 0)], true⟩
     (.lett ⟨(.get [(5, 3)]), [vs 4, .c (I 0)], false⟩
     (.lett ⟨(.get [(5, 4)]), [vs 4, .c (I 0)], false⟩
     (.call 236 [[vf 11, vf 12, vf 13, vs 14, vs 15]] [[true]]
     (.lett ⟨(.bin .add), [vf 9, vf 16], true⟩
     (.lett ⟨(.bin .add), [vf 17, .c (.str ⟨#[62]⟩)], true⟩
     (.ret [[vf 18]]))))))))))))
     (.lett ⟨(.mk 1 []), [], false⟩
     (.lett ⟨.len, [vs 4], true⟩
     (.loop 0 [vf 0, vf 1, vf 2, vs 3, vs 4, vs 8, .c (I 0)]
      (.lett ⟨(.bin .lss), [vf 16, vf 9], true⟩
      (.ite (vf 17)
       (.lett ⟨(.inb 5), [vs 4, vf 16], true⟩
       (.lett ⟨(.get [(5, 0)]), [vs 4, vf 16], true⟩
       (.lett ⟨(.get [(5, 1)]), [vs 4, vf 16], true⟩
       (.lett ⟨(.get [(5, 2)]), [vs 4, vf 16], true⟩
       (.lett ⟨(.get [(5, 3)]), [vs 4, vf 16], false⟩
       (.lett ⟨(.get [(5, 4)]), [vs 4, vf 16], false⟩
       (.call 236 [[vf 19, vf 20, vf 21, vs 22, vs 23]] [[true]]
       (.lett ⟨(.bin .eql), [vf 10, .c (I 3)], true⟩
       (.ite (vf 25)
        (.lett ⟨(.inb 1), [vs 13, vf 16], true⟩
        (.lett ⟨(.get [(1, 0)]), [vs 13, vf 16], true⟩
        (.lett ⟨(.bin .add), [vf 27, .c (.str ⟨#[61]⟩)], true⟩
        (.lett ⟨(.bin .add), [vf 28, vf 24], true⟩
        (.lett ⟨(.mk 1 [1]), [vf 29], false⟩
        (.lett ⟨(.app 1 16 false false), [vs 15, vs 30], false⟩
        (.lett ⟨(.bin .add), [vf 16, .c (I 1)], true⟩
        (.again 0 [vf 10, vf 11, vf 12, vs 13, vs 14, vs 31, vf 32]))))))))
        (.lett ⟨(.mk 1 [1]), [vf 24], false⟩
        (.lett ⟨(.app 1 16 false false), [vs 15, vs 26], false⟩
        (.lett ⟨(.bin .add), [vf 16, .c (I 1)], true⟩
        (.again 0 [vf 10, vf 11, vf 12, vs 13, vs 14, vs 27, vf 28])))))))))))))
       (.lett ⟨(.bin .eql), [vf 10, .c (I 3)], true⟩
       (.ite (vf 18)
        (.call 244 [[vs 15], [.c (.str ⟨#[44]⟩)]] [[true]]
        (.lett ⟨(.bin .add), [.c (.str ⟨#[123]⟩), vf 19], true⟩
        (.lett ⟨(.bin .add), [vf 20, .c (.str ⟨#[125]⟩)], true⟩
        (.ret [[vf 21]]))))
        (.call 244 [[vs 15], [.c (.str ⟨#[44]⟩)]] [[true]]
        (.lett ⟨(.bin .add), [.c (.str ⟨#[91]⟩), vf 19], true⟩
        (.lett ⟨(.bin .add), [vf 20, .c (.str ⟨#[93]⟩)], true⟩
        (.ret [[vf 21]])))))))))))))))))
theorem c236 : compFn tab (hof [(8, [[true]]), (12, [[true]]), (13, [[true]]), (17, [[true]]), (22, [[true]]), (26, [[false]]), (28, [[true, true, true, false, false]]), (29, [[true]]), (34, [[false]]), (40, [[true, true, true, false, false]]), (41, [[true, true, true, false, false]]), (42, [[true]]), (44, [[true]]), (47, [[false]]), (50, [[true]]), (60, [[true]]), (63, [[true]]), (67, [[true]])]) a_impl_valueText [[true, true, true, false, false]] = some t236 := by kernel_rfl

/-- impl.digitsOf -/
def t96 : Tr :=
  (.lett ⟨(.bin .lss), [vf 0, .c (.int .u64 10)], true⟩
  (.ite (vf 1)
   (.lett ⟨(.bin .add), [.c (.int .u64 48), vf 0], true⟩
   (.lett ⟨(.conv .u8), [vf 2], true⟩
   (.lett ⟨(.mk 1 [1]), [vf 3], false⟩
   (.lett ⟨.bytesStr, [vs 4], true⟩
   (.ret [[vf 5]])))))
   (.lett ⟨(.bin .quo), [vf 0, .c (.int .u64 10)], true⟩
   (.call 96 [[vf 2]] [[true]]
   (.lett ⟨(.bin .rem), [vf 0, .c (.int .u64 10)], true⟩
   (.lett ⟨(.bin .add), [.c (.int .u64 48), vf 4], true⟩
   (.lett ⟨(.conv .u8), [vf 5], true⟩
   (.lett ⟨(.mk 1 [1]), [vf 6], false⟩
   (.lett ⟨.bytesStr, [vs 7], true⟩
   (.lett ⟨(.bin .add), [vf 3, vf 8], true⟩
   (.ret [[vf 9]])))))))))))
theorem c96 : compFn tab (hof [(12, [[true]])]) a_impl_digitsOf [[true]] = some t96 := by kernel_rfl

/-- laws.eqStep -/
def t61 : Tr :=
  (.lett ⟨(.bin .neq), [vf 0, vf 3], true⟩
  (.ite (vf 6)
   (.ret [[.c (.bool false)]])
   (.lett ⟨(.bin .neq), [vf 1, vf 4], true⟩
   (.ite (vf 7)
    (.ret [[.c (.bool false)]])
    (.lett ⟨(.bin .neq), [vf 2, vf 5], true⟩
    (.ite (vf 8)
     (.ret [[.c (.bool false)]])
     (.ret [[.c (.bool true)]])))))))
theorem c61 : compFn tab (hof [(6, [[true]]), (8, [[true]]), (11, [[true]]), (13, [[true]]), (16, [[true]]), (18, [[true]])]) a_laws_eqStep [[true, true, true], [true, true, true]] = some t61 := by kernel_rfl

/-- laws.eqStringS -/
def t103 : Tr :=
  (.lett ⟨.len, [vs 0], true⟩
  (.lett ⟨.len, [vs 1], true⟩
  (.lett ⟨(.bin .neq), [vf 2, vf 3], true⟩
  (.ite (vf 4)
   (.ret [[.c (.bool false)]])
   (.loop 0 [.c (I 0)]
    (.lett ⟨.len, [vs 0], true⟩
    (.lett ⟨(.bin .lss), [vf 5, vf 6], true⟩
    (.ite (vf 7)
     (.lett ⟨(.inb 1), [vs 0, vf 5], true⟩
     (.lett ⟨(.get [(1, 0)]), [vs 0, vf 5], true⟩
     (.lett ⟨(.inb 1), [vs 1, vf 5], true⟩
     (.lett ⟨(.get [(1, 0)]), [vs 1, vf 5], true⟩
     (.lett ⟨(.bin .neq), [vf 9, vf 11], true⟩
     (.ite (vf 12)
      (.ret [[.c (.bool false)]])
      (.lett ⟨(.bin .add), [vf 5, .c (I 1)], true⟩
      (.again 0 [vf 13]))))))))
     (.ret [[.c (.bool true)]])))))))))
theorem c103 : compFn tab (hof [(20, [[true]]), (24, [[true]])]) a_laws_eqStringS [[false], [false]] = some t103 := by kernel_rfl

/-- laws.eqValueS -/
def t104 : Tr :=
  (.lett ⟨.len, [vs 0], true⟩
  (.lett ⟨.len, [vs 1], true⟩
  (.lett ⟨(.bin .neq), [vf 2, vf 3], true⟩
  (.ite (vf 4)
   (.ret [[.c (.bool false)]])
   (.loop 0 [.c (I 0)]
    (.lett ⟨.len, [vs 0], true⟩
    (.lett ⟨(.bin .lss), [vf 5, vf 6], true⟩
    (.ite (vf 7)
     (.lett ⟨(.inb 5), [vs 0, vf 5], true⟩
     (.lett ⟨(.get [(5, 0)]), [vs 0, vf 5], true⟩
     (.lett ⟨(.get [(5, 1)]), [vs 0, vf 5], true⟩
     (.lett ⟨(.get [(5, 2)]), [vs 0, vf 5], true⟩
     (.lett ⟨(.get [(5, 3)]), [vs 0, vf 5], false⟩
     (.lett ⟨(.get [(5, 4)]), [vs 0, vf 5], false⟩
     (.lett ⟨(.inb 5), [vs 1, vf 5], true⟩
     (.lett ⟨(.get [(5, 0)]), [vs 1, vf 5], true⟩
     (.lett ⟨(.get [(5, 1)]), [vs 1, vf 5], true⟩
     (.lett ⟨(.get [(5, 2)]), [vs 1, vf 5], true⟩
     (.lett ⟨(.get [(5, 3)]), [vs 1, vf 5], false⟩
     (.lett ⟨(.get [(5, 4)]), [vs 1, vf 5], false⟩
     (.call 81 [[vf 9, vf 10, vf 11, vs 12, vs 13], [vf 15, vf 16, vf 17, vs 18, vs 19]] [[true]]
     (.lett ⟨(.un .not), [vf 20], true⟩
     (.ite (vf 21)
      (.ret [[.c (.bool false)]])
      (.lett ⟨(.bin .add), [vf 5, .c (I 1)], true⟩
      (.again 0 [vf 22])))))))))))))))))
     (.ret [[.c (.bool true)]])))))))))
theorem c104 : compFn tab (hof [(20, [[true, true, true, false, false]]), (24, [[true, true, true, false, false]]), (25, [[true]])]) a_laws_eqValueS [[false], [false]] = some t104 := by kernel_rfl

/-- spec.IsName -/
def t62 : Tr :=
  (.loop 0 [.c (I 0)]
   (.lett ⟨.lenS, [vf 0], true⟩
   (.lett ⟨(.bin .lss), [vf 1, vf 2], true⟩
   (.ite (vf 3)
    (.join 1 [true]
     (.lett ⟨.ix, [vf 0, vf 1], true⟩
     (.lett ⟨(.bin .geq), [vf 4, .c (.int .u8 97)], true⟩
     (.ite (vf 5)
      (.lett ⟨.ix, [vf 0, vf 1], true⟩
      (.lett ⟨(.bin .leq), [vf 6, .c (.int .u8 122)], true⟩
      (.again 1 [vf 7])))
      (.again 1 [.c (.bool false)]))))
     (.lett ⟨(.un .not), [vf 4], true⟩
     (.ite (vf 5)
      (.lett ⟨(.bin .eql), [vf 1, .c (I 0)], true⟩
      (.ite (vf 6)
       (.ret [[.c (.bool false)]])
       (.lett ⟨.ix, [vf 0, vf 1], true⟩
       (.lett ⟨(.bin .lss), [vf 7, .c (.int .u8 48)], true⟩
       (.ite (vf 8)
        (.ret [[.c (.bool false)]])
        (.lett ⟨.ix, [vf 0, vf 1], true⟩
        (.lett ⟨(.bin .gtr), [vf 9, .c (.int .u8 57)], true⟩
        (.ite (vf 10)
         (.ret [[.c (.bool false)]])
         (.lett ⟨(.bin .add), [vf 1, .c (I 1)], true⟩
         (.again 0 [vf 11]))))))))))
      (.lett ⟨(.bin .add), [vf 1, .c (I 1)], true⟩
      (.again 0 [vf 6])))))
    (.lett ⟨.lenS, [vf 0], true⟩
    (.call 63 [[vf 4], [.c (I 1)], [.c (I 4)]] [[true]]
    (.ret [[vf 5]])))))))
theorem c62 : compFn tab (hof [(41, [[true]])]) a_spec_IsName [[true]] = some t62 := by kernel_rfl

/-- spec.l1In -/
def t63 : Tr :=
  (.lett ⟨(.bin .geq), [vf 0, vf 1], true⟩
  (.ite (vf 3)
   (.lett ⟨(.bin .leq), [vf 0, vf 2], true⟩
   (.ret [[vf 4]]))
   (.ret [[.c (.bool false)]])))
theorem c63 : compFn tab (hof []) a_spec_l1In [[true], [true], [true]] = some t63 := by kernel_rfl

/-- spec.l5Left -/
def t212 : Tr :=
  (.lett ⟨(.bin .sub), [vf 5, .c (I 1)], true⟩
  (.loop 0 [vf 6, .c (I 0)]
   (.lett ⟨.len, [vs 4], true⟩
   (.lett ⟨(.bin .lss), [vf 8, vf 9], true⟩
   (.ite (vf 10)
    (.lett ⟨(.bin .geq), [vf 7, .c (I 0)], true⟩
    (.ite (vf 11)
     (.lett ⟨(.inb 5), [vs 4, vf 8], true⟩
     (.lett ⟨(.get [(5, 0)]), [vs 4, vf 8], true⟩
     (.lett ⟨(.get [(5, 1)]), [vs 4, vf 8], true⟩
     (.lett ⟨(.get [(5, 2)]), [vs 4, vf 8], true⟩
     (.lett ⟨(.get [(5, 3)]), [vs 4, vf 8], false⟩
     (.lett ⟨(.get [(5, 4)]), [vs 4, vf 8], false⟩
     (.call 212 [[vf 13, vf 14, vf 15, vs 16, vs 17], [vf 7]] [[true]]
     (.lett ⟨(.bin .add), [vf 8, .c (I 1)], true⟩
     (.again 0 [vf 18, vf 19])))))))))
     (.ret [[vf 7]])))
    (.ret [[vf 7]]))))))
theorem c212 : compFn tab (hof [(10, [[false]]), (20, [[false]]), (23, [[true, true, true, false, false]]), (25, [[true]])]) a_spec_l5Left [[true, true, true, false, false], [true]] = some t212 := by kernel_rfl

/-- spec.l5Form -/
def t213 : Tr :=
  (.loop 0 [.c (I 0)]
   (.lett ⟨.len, [vs 4], true⟩
   (.lett ⟨(.bin .lss), [vf 5, vf 6], true⟩
   (.ite (vf 7)
    (.lett ⟨(.inb 5), [vs 4, vf 5], true⟩
    (.lett ⟨(.get [(5, 0)]), [vs 4, vf 5], true⟩
    (.lett ⟨(.get [(5, 1)]), [vs 4, vf 5], true⟩
    (.lett ⟨(.get [(5, 2)]), [vs 4, vf 5], true⟩
    (.lett ⟨(.get [(5, 3)]), [vs 4, vf 5], false⟩
    (.lett ⟨(.get [(5, 4)]), [vs 4, vf 5], false⟩
    (.call 213 [[vf 9, vf 10, vf 11, vs 12, vs 13]] [[true]]
    (.lett ⟨(.un .not), [vf 14], true⟩
    (.ite (vf 15)
     (.ret [[.c (.bool false)]])
     (.lett ⟨(.bin .add), [vf 5, .c (I 1)], true⟩
     (.again 0 [vf 16])))))))))))
    (.lett ⟨(.bin .eql), [vf 0, .c (I 4)], true⟩
    (.join 0 []
     (.call 62 [[vf 2]] [[true]]
     (.lett ⟨(.eqB true), [vf 8, vf 9], true⟩
     (.ite (vf 10)
      (.ret [[.c (.bool false)]])
      (.lett ⟨(.un .not), [vf 8], true⟩
      (.ite (vf 11)
       (.lett ⟨(.bin .neq), [vf 2, .c (.str ⟨#[]⟩)], true⟩
       (.ite (vf 12)
        (.ret [[.c (.bool false)]])
        (.lett ⟨(.bin .neq), [vf 0, .c (I 3)], true⟩
        (.ite (vf 13)
         (.lett ⟨.len, [vs 3], true⟩
         (.lett ⟨(.bin .gtr), [vf 14, .c (I 0)], true⟩
         (.ite (vf 15)
          (.ret [[.c (.bool false)]])
          (.again 0 []))))
         (.again 0 [])))))
       (.lett ⟨(.bin .neq), [vf 0, .c (I 3)], true⟩
       (.ite (vf 12)
        (.lett ⟨.len, [vs 3], true⟩
        (.lett ⟨(.bin .gtr), [vf 13, .c (I 0)], true⟩
        (.ite (vf 14)
         (.ret [[.c (.bool false)]])
         (.again 0 []))))
        (.again 0 []))))))))
     (.lett ⟨(.bin .eql), [vf 0, .c (I 1)], true⟩
     (.ite (vf 9)
      (.lett ⟨.len, [vs 4], true⟩
      (.lett ⟨(.bin .eql), [vf 10, .c (I 0)], true⟩
      (.ret [[vf 11]])))
      (.lett ⟨(.bin .eql), [vf 0, .c (I 2)], true⟩
      (.ite (vf 10)
       (.lett ⟨.len, [vs 4], true⟩
       (.lett ⟨(.bin .eql), [vf 11, .c (I 0)], true⟩
       (.ite (vf 12)
        (.call 63 [[vf 1], [.c (I 0)], [.c (I 1)]] [[true]]
        (.ret [[vf 13]]))
        (.ret [[.c (.bool false)]]))))
       (.lett ⟨(.bin .eql), [vf 0, .c (I 3)], true⟩
       (.ite (vf 11)
        (.lett ⟨(.bin .eql), [vf 1, .c (I 0)], true⟩
        (.ite (vf 12)
         (.lett ⟨.len, [vs 3], true⟩
         (.lett ⟨.len, [vs 4], true⟩
         (.lett ⟨(.bin .eql), [vf 13, vf 14], true⟩
         (.ite (vf 15)
          (.call 240 [[vs 3]] [[true]]
          (.ret [[vf 16]]))
          (.ret [[.c (.bool false)]])))))
         (.ret [[.c (.bool false)]])))
        (.lett ⟨(.bin .eql), [vf 0, .c (I 4)], true⟩
        (.ite (vf 12)
         (.lett ⟨(.bin .eql), [vf 1, .c (I 0)], true⟩
         (.ite (vf 13)
          (.lett ⟨.len, [vs 4], true⟩
          (.lett ⟨(.bin .eql), [vf 14, .c (I 1)], true⟩
          (.ret [[vf 15]])))
          (.ret [[.c (.bool false)]])))
         (.lett ⟨(.bin .eql), [vf 0, .c (I 5)], true⟩
         (.ite (vf 13)
          (.lett ⟨(.bin .eql), [vf 1, .c (I 0)], true⟩
          (.ret [[vf 14]]))
          (.ret [[.c (.bool false)]])))))))))))))))))
theorem c213 : compFn tab (hof [(7, [[false]]), (13, [[false]]), (16, [[true, true, true, false, false]]), (17, [[true]]), (20, [[true]]), (24, [[true]]), (25, [[true]]), (32, [[true]]), (38, [[true]]), (42, [[false]]), (48, [[true]]), (52, [[false]]), (58, [[false]]), (63, [[true]]), (64, [[true]]), (69, [[true]]), (73, [[false]]), (76, [[false]]), (82, [[false]]), (83, [[true]]), (88, [[true]]), (92, [[false]]), (99, [[true]])]) a_spec_l5Form [[true, true, true, false, false]] = some t213 := by kernel_rfl

/-- spec.Join -/
def t243 : Tr :=
  (.lett ⟨(.mk 1 []), [], false⟩
  (.loop 0 [vs 2, .c (I 0)]
   (.lett ⟨.len, [vs 0], true⟩
   (.lett ⟨(.bin .lss), [vf 4, vf 5], true⟩
   (.ite (vf 6)
    (.lett ⟨(.bin .gtr), [vf 4, .c (I 0)], true⟩
    (.ite (vf 7)
     (.lett ⟨.appStr, [vs 3, vf 1], false⟩
     (.lett ⟨(.inb 1), [vs 0, vf 4], true⟩
     (.lett ⟨(.get [(1, 0)]), [vs 0, vf 4], true⟩
     (.lett ⟨.appStr, [vs 8, vf 10], false⟩
     (.lett ⟨(.bin .add), [vf 4, .c (I 1)], true⟩
     (.again 0 [vs 11, vf 12]))))))
     (.lett ⟨(.inb 1), [vs 0, vf 4], true⟩
     (.lett ⟨(.get [(1, 0)]), [vs 0, vf 4], true⟩
     (.lett ⟨.appStr, [vs 3, vf 9], false⟩
     (.lett ⟨(.bin .add), [vf 4, .c (I 1)], true⟩
     (.again 0 [vs 10, vf 11])))))))
    (.lett ⟨.bytesStr, [vs 3], true⟩
    (.ret [[vf 7]])))))))
theorem c243 : compFn tab (hof [(23, [[true]])]) a_spec_Join [[false], [true]] = some t243 := by kernel_rfl

/-- impl.IsName -/
def t64 : Tr :=
  (.lett ⟨.lenS, [vf 0], true⟩
  (.lett ⟨(.bin .eql), [vf 1, .c (I 0)], true⟩
  (.ite (vf 2)
   (.ret [[.c (.bool false)]])
   (.lett ⟨.lenS, [vf 0], true⟩
   (.lett ⟨(.bin .gtr), [vf 3, .c (I 4)], true⟩
   (.ite (vf 4)
    (.ret [[.c (.bool false)]])
    (.lett ⟨.lenS, [vf 0], true⟩
    (.loop 0 [.c (I 0)]
     (.lett ⟨(.bin .lss), [vf 6, vf 5], true⟩
     (.ite (vf 7)
      (.lett ⟨.ix, [vf 0, vf 6], true⟩
      (.lett ⟨(.bin .eql), [vf 6, .c (I 0)], true⟩
      (.call 95 [[vf 8], [vf 9]] [[true]]
      (.lett ⟨(.un .not), [vf 10], true⟩
      (.ite (vf 11)
       (.ret [[.c (.bool false)]])
       (.lett ⟨(.bin .add), [vf 6, .c (I 1)], true⟩
       (.again 0 [vf 12])))))))
      (.ret [[.c (.bool true)]])))))))))))
theorem c64 : compFn tab (hof [(22, [[true]])]) a_impl_IsName [[true]] = some t64 := by kernel_rfl

/-- impl.SizeOfValue -/
def t74 : Tr :=
  (.lett ⟨.len, [vs 4], true⟩
  (.loop 0 [.c (I 1), .c (I 0)]
   (.lett ⟨(.bin .lss), [vf 7, vf 5], true⟩
   (.ite (vf 8)
    (.lett ⟨(.inb 5), [vs 4, vf 7], true⟩
    (.lett ⟨(.get [(5, 0)]), [vs 4, vf 7], true⟩
    (.lett ⟨(.get [(5, 1)]), [vs 4, vf 7], true⟩
    (.lett ⟨(.get [(5, 2)]), [vs 4, vf 7], true⟩
    (.lett ⟨(.get [(5, 3)]), [vs 4, vf 7], false⟩
    (.lett ⟨(.get [(5, 4)]), [vs 4, vf 7], false⟩
    (.call 74 [[vf 10, vf 11, vf 12, vs 13, vs 14]] [[true]]
    (.lett ⟨(.bin .add), [vf 6, vf 15], true⟩
    (.lett ⟨(.bin .add), [vf 7, .c (I 1)], true⟩
    (.again 0 [vf 16, vf 17]))))))))))
    (.ret [[vf 6]])))))
theorem c74 : compFn tab (hof [(7, [[false]]), (12, [[true, true, true, false, false]]), (14, [[true, true, true, false, false]]), (15, [[true]])]) a_impl_SizeOfValue [[true, true, true, false, false]] = some t74 := by kernel_rfl

/-- impl.valueFormed -/
def t216 : Tr :=
  (.join 0 [true]
   (.lett ⟨(.bin .eql), [vf 0, .c (I 1)], true⟩
   (.ite (vf 5)
    (.lett ⟨(.bin .eql), [vf 2, .c (.str ⟨#[]⟩)], true⟩
    (.ite (vf 6)
     (.lett ⟨.len, [vs 3], true⟩
     (.lett ⟨(.bin .eql), [vf 7, .c (I 0)], true⟩
     (.ite (vf 8)
      (.lett ⟨.len, [vs 4], true⟩
      (.lett ⟨(.bin .eql), [vf 9, .c (I 0)], true⟩
      (.again 0 [vf 10])))
      (.again 0 [.c (.bool false)]))))
     (.again 0 [.c (.bool false)])))
    (.lett ⟨(.bin .eql), [vf 0, .c (I 2)], true⟩
    (.ite (vf 6)
     (.lett ⟨(.bin .eql), [vf 1, .c (I 0)], true⟩
     (.ite (vf 7)
      (.lett ⟨(.bin .eql), [vf 2, .c (.str ⟨#[]⟩)], true⟩
      (.ite (vf 8)
       (.lett ⟨.len, [vs 3], true⟩
       (.lett ⟨(.bin .eql), [vf 9, .c (I 0)], true⟩
       (.ite (vf 10)
        (.lett ⟨.len, [vs 4], true⟩
        (.lett ⟨(.bin .eql), [vf 11, .c (I 0)], true⟩
        (.again 0 [vf 12])))
        (.again 0 [.c (.bool false)]))))
       (.again 0 [.c (.bool false)])))
      (.lett ⟨(.bin .eql), [vf 1, .c (I 1)], true⟩
      (.ite (vf 8)
       (.lett ⟨(.bin .eql), [vf 2, .c (.str ⟨#[]⟩)], true⟩
       (.ite (vf 9)
        (.lett ⟨.len, [vs 3], true⟩
        (.lett ⟨(.bin .eql), [vf 10, .c (I 0)], true⟩
        (.ite (vf 11)
         (.lett ⟨.len, [vs 4], true⟩
         (.lett ⟨(.bin .eql), [vf 12, .c (I 0)], true⟩
         (.again 0 [vf 13])))
         (.again 0 [.c (.bool false)]))))
        (.again 0 [.c (.bool false)])))
       (.again 0 [.c (.bool false)])))))
     (.lett ⟨(.bin .eql), [vf 0, .c (I 3)], true⟩
     (.ite (vf 7)
      (.lett ⟨(.bin .eql), [vf 1, .c (I 0)], true⟩
      (.ite (vf 8)
       (.lett ⟨(.bin .eql), [vf 2, .c (.str ⟨#[]⟩)], true⟩
       (.ite (vf 9)
        (.lett ⟨.len, [vs 3], true⟩
        (.lett ⟨.len, [vs 4], true⟩
        (.lett ⟨(.bin .eql), [vf 10, vf 11], true⟩
        (.ite (vf 12)
         (.call 241 [[vs 3]] [[true]]
         (.again 0 [vf 13]))
         (.again 0 [.c (.bool false)])))))
        (.again 0 [.c (.bool false)])))
       (.again 0 [.c (.bool false)])))
      (.lett ⟨(.bin .eql), [vf 0, .c (I 4)], true⟩
      (.ite (vf 8)
       (.lett ⟨(.bin .eql), [vf 1, .c (I 0)], true⟩
       (.ite (vf 9)
        (.call 64 [[vf 2]] [[true]]
        (.ite (vf 10)
         (.lett ⟨.len, [vs 3], true⟩
         (.lett ⟨(.bin .eql), [vf 11, .c (I 0)], true⟩
         (.ite (vf 12)
          (.lett ⟨.len, [vs 4], true⟩
          (.lett ⟨(.bin .eql), [vf 13, .c (I 1)], true⟩
          (.again 0 [vf 14])))
          (.again 0 [.c (.bool false)]))))
         (.again 0 [.c (.bool false)])))
        (.again 0 [.c (.bool false)])))
       (.lett ⟨(.bin .eql), [vf 0, .c (I 5)], true⟩
       (.ite (vf 9)
        (.lett ⟨(.bin .eql), [vf 1, .c (I 0)], true⟩
        (.ite (vf 10)
         (.lett ⟨(.bin .eql), [vf 2, .c (.str ⟨#[]⟩)], true⟩
         (.ite (vf 11)
          (.lett ⟨.len, [vs 3], true⟩
          (.lett ⟨(.bin .eql), [vf 12, .c (I 0)], true⟩
          (.again 0 [vf 13])))
          (.again 0 [.c (.bool false)])))
         (.again 0 [.c (.bool false)])))
        (.again 0 [.c (.bool false)])))))))))))
   (.lett ⟨.len, [vs 4], true⟩
   (.loop 0 [vf 5, .c (I 0)]
    (.lett ⟨(.bin .lss), [vf 8, vf 6], true⟩
    (.ite (vf 9)
     (.lett ⟨(.inb 5), [vs 4, vf 8], true⟩
     (.lett ⟨(.get [(5, 0)]), [vs 4, vf 8], true⟩
     (.lett ⟨(.get [(5, 1)]), [vs 4, vf 8], true⟩
     (.lett ⟨(.get [(5, 2)]), [vs 4, vf 8], true⟩
     (.lett ⟨(.get [(5, 3)]), [vs 4, vf 8], false⟩
     (.lett ⟨(.get [(5, 4)]), [vs 4, vf 8], false⟩
     (.ite (vf 7)
      (.call 216 [[vf 11, vf 12, vf 13, vs 14, vs 15]] [[true]]
      (.lett ⟨(.bin .add), [vf 8, .c (I 1)], true⟩
      (.again 0 [vf 16, vf 17])))
      (.lett ⟨(.bin .add), [vf 8, .c (I 1)], true⟩
      (.again 0 [.c (.bool false), vf 16])))))))))
     (.ret [[vf 7]]))))))
theorem c216 : compFn tab (hof [(7, [[true]]), (11, [[true]]), (15, [[false]]), (21, [[false]]), (28, [[true]]), (32, [[true]]), (37, [[true]]), (42, [[false]]), (48, [[false]]), (55, [[true]]), (59, [[true]]), (64, [[false]]), (67, [[false]]), (73, [[false]]), (74, [[true]]), (79, [[true]]), (83, [[true]]), (84, [[true]]), (88, [[false]]), (94, [[false]]), (101, [[true]]), (105, [[true]]), (110, [[false]]), (115, [[false]]), (120, [[true, true, true, false, false]]), (123, [[true, true, true, false, false]]), (124, [[true]])]) a_impl_valueFormed [[true, true, true, false, false]] = some t216 := by kernel_rfl

/-- impl.Join -/
def t244 : Tr :=
  (.lett ⟨(.mk 1 []), [], false⟩
  (.lett ⟨.len, [vs 0], true⟩
  (.loop 0 [vs 2, .c (I 0)]
   (.lett ⟨(.bin .lss), [vf 5, vf 3], true⟩
   (.ite (vf 6)
    (.lett ⟨(.inb 1), [vs 0, vf 5], true⟩
    (.lett ⟨(.get [(1, 0)]), [vs 0, vf 5], true⟩
    (.lett ⟨(.bin .gtr), [vf 5, .c (I 0)], true⟩
    (.ite (vf 9)
     (.lett ⟨.appStr, [vs 4, vf 1], false⟩
     (.lett ⟨.appStr, [vs 10, vf 8], false⟩
     (.lett ⟨(.bin .add), [vf 5, .c (I 1)], true⟩
     (.again 0 [vs 11, vf 12]))))
     (.lett ⟨.appStr, [vs 4, vf 8], false⟩
     (.lett ⟨(.bin .add), [vf 5, .c (I 1)], true⟩
     (.again 0 [vs 10, vf 11])))))))
    (.lett ⟨.bytesStr, [vs 4], true⟩
    (.ret [[vf 7]])))))))
theorem c244 : compFn tab (hof [(15, [[true]])]) a_impl_Join [[false], [true]] = some t244 := by kernel_rfl

/-- spec.l3Labels -/
def t240 : Tr :=
  (.loop 0 [.c (I 0)]
   (.lett ⟨.len, [vs 0], true⟩
   (.lett ⟨(.bin .lss), [vf 1, vf 2], true⟩
   (.ite (vf 3)
    (.lett ⟨(.inb 1), [vs 0, vf 1], true⟩
    (.lett ⟨(.get [(1, 0)]), [vs 0, vf 1], true⟩
    (.call 62 [[vf 5]] [[true]]
    (.lett ⟨(.un .not), [vf 6], true⟩
    (.ite (vf 7)
     (.ret [[.c (.bool false)]])
     (.lett ⟨(.bin .add), [vf 1, .c (I 1)], true⟩
     (.again 0 [vf 8])))))))
    (.lett ⟨.len, [vs 0], true⟩
    (.call 63 [[vf 4], [.c (I 1)], [.c (I 4)]] [[true]]
    (.ite (vf 5)
     (.call 245 [[vs 0]] [[true]]
     (.ret [[vf 6]]))
     (.ret [[.c (.bool false)]]))))))))
theorem c240 : compFn tab (hof [(13, [[true]]), (14, [[true]]), (18, [[true]]), (21, [[true]])]) a_spec_l3Labels [[false]] = some t240 := by kernel_rfl

/-- impl.nameByte -/
def t95 : Tr :=
  (.lett ⟨(.bin .geq), [vf 0, .c (.int .u8 97)], true⟩
  (.ite (vf 2)
   (.lett ⟨(.bin .leq), [vf 0, .c (.int .u8 122)], true⟩
   (.ite (vf 3)
    (.ret [[.c (.bool true)]])
    (.lett ⟨(.un .not), [vf 1], true⟩
    (.ite (vf 4)
     (.lett ⟨(.bin .geq), [vf 0, .c (.int .u8 48)], true⟩
     (.ite (vf 5)
      (.lett ⟨(.bin .leq), [vf 0, .c (.int .u8 57)], true⟩
      (.ret [[vf 6]]))
      (.ret [[.c (.bool false)]])))
     (.ret [[.c (.bool false)]])))))
   (.lett ⟨(.un .not), [vf 1], true⟩
   (.ite (vf 3)
    (.lett ⟨(.bin .geq), [vf 0, .c (.int .u8 48)], true⟩
    (.ite (vf 4)
     (.lett ⟨(.bin .leq), [vf 0, .c (.int .u8 57)], true⟩
     (.ret [[vf 5]]))
     (.ret [[.c (.bool false)]])))
    (.ret [[.c (.bool false)]])))))
theorem c95 : compFn tab (hof []) a_impl_nameByte [[true], [true]] = some t95 := by kernel_rfl

/-- impl.labelsOk -/
def t241 : Tr :=
  (.lett ⟨.len, [vs 0], true⟩
  (.lett ⟨(.bin .lss), [vf 1, .c (I 1)], true⟩
  (.ite (vf 2)
   (.ret [[.c (.bool false)]])
   (.lett ⟨.len, [vs 0], true⟩
   (.lett ⟨(.bin .gtr), [vf 3, .c (I 4)], true⟩
   (.ite (vf 4)
    (.ret [[.c (.bool false)]])
    (.call 246 [[vs 0]] [[true]]
    (.lett ⟨(.un .not), [vf 5], true⟩
    (.ite (vf 6)
     (.ret [[.c (.bool false)]])
     (.lett ⟨.len, [vs 0], true⟩
     (.loop 0 [.c (I 0)]
      (.lett ⟨(.bin .lss), [vf 8, vf 7], true⟩
      (.ite (vf 9)
       (.lett ⟨(.inb 1), [vs 0, vf 8], true⟩
       (.lett ⟨(.get [(1, 0)]), [vs 0, vf 8], true⟩
       (.call 64 [[vf 11]] [[true]]
       (.lett ⟨(.un .not), [vf 12], true⟩
       (.ite (vf 13)
        (.ret [[.c (.bool false)]])
        (.lett ⟨(.bin .add), [vf 8, .c (I 1)], true⟩
        (.again 0 [vf 14])))))))
       (.ret [[.c (.bool true)]]))))))))))))))
theorem c241 : compFn tab (hof [(15, [[true]]), (23, [[true]]), (25, [[true]])]) a_impl_labelsOk [[false]] = some t241 := by kernel_rfl

/-- spec.AreAscending -/
def t245 : Tr :=
  (.loop 0 [.c (I 1)]
   (.lett ⟨.len, [vs 0], true⟩
   (.lett ⟨(.bin .lss), [vf 1, vf 2], true⟩
   (.ite (vf 3)
    (.lett ⟨(.bin .sub), [vf 1, .c (I 1)], true⟩
    (.lett ⟨(.inb 1), [vs 0, vf 4], true⟩
    (.lett ⟨(.get [(1, 0)]), [vs 0, vf 4], true⟩
    (.lett ⟨(.inb 1), [vs 0, vf 1], true⟩
    (.lett ⟨(.get [(1, 0)]), [vs 0, vf 1], true⟩
    (.lett ⟨(.bin .geq), [vf 6, vf 8], true⟩
    (.ite (vf 9)
     (.ret [[.c (.bool false)]])
     (.lett ⟨(.bin .add), [vf 1, .c (I 1)], true⟩
     (.again 0 [vf 10])))))))))
    (.ret [[.c (.bool true)]])))))
theorem c245 : compFn tab (hof [(14, [[true]]), (18, [[true]])]) a_spec_AreAscending [[false]] = some t245 := by kernel_rfl

/-- impl.AreAscending -/
def t246 : Tr :=
  (.loop 0 [.c (I 1)]
   (.lett ⟨.len, [vs 0], true⟩
   (.lett ⟨(.bin .lss), [vf 1, vf 2], true⟩
   (.ite (vf 3)
    (.lett ⟨(.bin .sub), [vf 1, .c (I 1)], true⟩
    (.lett ⟨(.inb 1), [vs 0, vf 4], true⟩
    (.lett ⟨(.get [(1, 0)]), [vs 0, vf 4], true⟩
    (.lett ⟨(.inb 1), [vs 0, vf 1], true⟩
    (.lett ⟨(.get [(1, 0)]), [vs 0, vf 1], true⟩
    (.lett ⟨(.bin .geq), [vf 6, vf 8], true⟩
    (.ite (vf 9)
     (.ret [[.c (.bool false)]])
     (.lett ⟨(.bin .add), [vf 1, .c (I 1)], true⟩
     (.again 0 [vf 10])))))))))
    (.ret [[.c (.bool true)]])))))
theorem c246 : compFn tab (hof [(14, [[true]]), (18, [[true]])]) a_impl_AreAscending [[false]] = some t246 := by kernel_rfl

end Go.Proofs.Ytkiliooegoldoaa
