/- The functions of the claim, as decision trees. -/
import Derived.Test.YtkiliooegoldoaaTab
import Derived.Test.YtkiliooegoldoaaRl
set_option maxRecDepth 100000
namespace Go.Proofs.Ytkiliooegoldoaa
open Go

/-- laws.FnExactEditCost -/
def t7 : Tr :=
  (.call 41 [[vs 0], [.c (I 1048576)]] [[true]]
  (.lett ⟨(.bin .lss), [vf 1, .c (I 0)], true⟩
  (.ite (vf 2)
   (.ret [[.c (.bool true)]])
   (.call 43 [[vs 0]] [[false]]
   (.call 42 [[vs 3]] [[true]]
   (.call 43 [[vs 0]] [[false]]
   (.call 44 [[vs 5]] [[true]]
   (.lett ⟨(.bin .neq), [vf 6, vf 4], true⟩
   (.ite (vf 7)
    (.ret [[.c (.bool false)]])
    (.call 43 [[vs 0]] [[false]]
    (.call 45 [[vs 5], [vs 8]] [[true]]
    (.lett ⟨(.un .not), [vf 9], true⟩
    (.ite (vf 10)
     (.ret [[.c (.bool false)]])
     (.ret [[.c (.bool true)]]))))))))))))))
theorem c7 : compFn tab (hof [(9, [[true]]), (13, [[false]]), (14, [[true]]), (16, [[false]]), (18, [[true]]), (24, [[false]]), (25, [[true]])]) a_laws_FnExactEditCost [[false]] = some t7 := by kernel_rfl

/-- laws.szEditS -/
def t41 : Tr :=
  (.lett ⟨.len, [vs 0], true⟩
  (.lett ⟨(.bin .sub), [vf 1, vf 2], true⟩
  (.lett ⟨(.bin .lss), [vf 3, .c (I 0)], true⟩
  (.ite (vf 4)
   (.ret [[.c (I (-1))]])
   (.loop 0 [vf 3, .c (I 0)]
    (.lett ⟨.len, [vs 0], true⟩
    (.lett ⟨(.bin .lss), [vf 6, vf 7], true⟩
    (.ite (vf 8)
     (.lett ⟨(.inb 8), [vs 0, vf 6], true⟩
     (.lett ⟨(.get [(8, 0)]), [vs 0, vf 6], true⟩
     (.lett ⟨(.get [(8, 1)]), [vs 0, vf 6], false⟩
     (.lett ⟨(.get [(8, 2)]), [vs 0, vf 6], true⟩
     (.lett ⟨(.get [(8, 3)]), [vs 0, vf 6], true⟩
     (.lett ⟨(.get [(8, 4)]), [vs 0, vf 6], true⟩
     (.lett ⟨(.get [(8, 5)]), [vs 0, vf 6], false⟩
     (.lett ⟨(.get [(8, 6)]), [vs 0, vf 6], false⟩
     (.lett ⟨(.get [(8, 7)]), [vs 0, vf 6], true⟩
     (.call 71 [[vf 10, vs 11, vf 12, vf 13, vf 14, vs 15, vs 16, vf 17], [vf 5]] [[true]]
     (.lett ⟨(.bin .lss), [vf 18, .c (I 0)], true⟩
     (.ite (vf 19)
      (.ret [[.c (I (-1))]])
      (.lett ⟨(.bin .add), [vf 6, .c (I 1)], true⟩
      (.again 0 [vf 18, vf 20]))))))))))))))
     (.ret [[vf 5]])))))))))
theorem c41 : compFn tab (hof [(21, [[true, false, true, true, true, false, false, true]]), (23, [[true]])]) a_laws_szEditS [[false], [true]] = some t41 := by kernel_rfl

/-- laws.toEditS -/
def t43 : Tr :=
  (.lett ⟨.len, [vs 0], true⟩
  (.lett ⟨(.make 8 [(I 0), (Z 3), (I 0), (I 0), (.str ⟨#[]⟩), (Z 1), (Z 5), (I 0)]), [vf 1], false⟩
  (.loop 0 [vs 2, .c (I 0)]
   (.lett ⟨.len, [vs 0], true⟩
   (.lett ⟨(.bin .lss), [vf 4, vf 5], true⟩
   (.ite (vf 6)
    (.lett ⟨(.inb 8), [vs 0, vf 4], true⟩
    (.lett ⟨(.get [(8, 0)]), [vs 0, vf 4], true⟩
    (.lett ⟨(.get [(8, 1)]), [vs 0, vf 4], false⟩
    (.lett ⟨(.get [(8, 2)]), [vs 0, vf 4], true⟩
    (.lett ⟨(.get [(8, 3)]), [vs 0, vf 4], true⟩
    (.lett ⟨(.get [(8, 4)]), [vs 0, vf 4], true⟩
    (.lett ⟨(.get [(8, 5)]), [vs 0, vf 4], false⟩
    (.lett ⟨(.get [(8, 6)]), [vs 0, vf 4], false⟩
    (.lett ⟨(.get [(8, 7)]), [vs 0, vf 4], true⟩
    (.call 73 [[vf 8, vs 9, vf 10, vf 11, vf 12, vs 13, vs 14, vf 15]] [[true, false, true, true, true, false, false, true]]
    (.lett ⟨(.inb 8), [vs 3, vf 4], true⟩
    (.lett ⟨(.set [(8, 0)]), [vs 3, vf 4, vf 16, vs 17, vf 18, vf 19, vf 20, vs 21, vs 22, vf 23], false⟩
    (.lett ⟨(.bin .add), [vf 4, .c (I 1)], true⟩
    (.again 0 [vs 25, vf 26]))))))))))))))
    (.ret [[vs 3]])))))))
theorem c43 : compFn tab (hof [(19, [[true, false, true, true, true, false, false, true]]), (20, [[true, false, true, true, true, false, false, true]])]) a_laws_toEditS [[false]] = some t43 := by kernel_rfl

/-- spec.EditCost -/
def t42 : Tr :=
  (.loop 0 [.c (I 0), .c (I 0)]
   (.lett ⟨.len, [vs 0], true⟩
   (.lett ⟨(.bin .lss), [vf 2, vf 3], true⟩
   (.ite (vf 4)
    (.lett ⟨(.inb 8), [vs 0, vf 2], true⟩
    (.lett ⟨(.get [(8, 0)]), [vs 0, vf 2], true⟩
    (.lett ⟨(.bin .eql), [vf 6, .c (I 3)], true⟩
    (.ite (vf 7)
     (.lett ⟨(.bin .add), [vf 1, .c (I 1)], true⟩
     (.lett ⟨(.bin .add), [vf 2, .c (I 1)], true⟩
     (.again 0 [vf 8, vf 9])))
     (.lett ⟨(.inb 8), [vs 0, vf 2], true⟩
     (.lett ⟨(.get [(8, 2)]), [vs 0, vf 2], true⟩
     (.lett ⟨(.get [(8, 3)]), [vs 0, vf 2], true⟩
     (.lett ⟨(.get [(8, 4)]), [vs 0, vf 2], true⟩
     (.lett ⟨(.get [(8, 5)]), [vs 0, vf 2], false⟩
     (.lett ⟨(.get [(8, 6)]), [vs 0, vf 2], false⟩
     (.call 72 [[vf 9, vf 10, vf 11, vs 12, vs 13]] [[true]]
     (.lett ⟨(.bin .add), [vf 1, vf 14], true⟩
     (.lett ⟨(.bin .add), [vf 2, .c (I 1)], true⟩
     (.again 0 [vf 15, vf 16]))))))))))))))
    (.ret [[vf 1]])))))
theorem c42 : compFn tab (hof [(15, [[true]]), (24, [[true, true, true, false, false]]), (25, [[true]])]) a_spec_EditCost [[false]] = some t42 := by kernel_rfl

/-- impl.EditCost -/
def t44 : Tr :=
  (.lett ⟨.len, [vs 0], true⟩
  (.loop 0 [.c (I 0), .c (I 0)]
   (.lett ⟨(.bin .lss), [vf 3, vf 1], true⟩
   (.ite (vf 4)
    (.lett ⟨(.inb 8), [vs 0, vf 3], true⟩
    (.lett ⟨(.get [(8, 0)]), [vs 0, vf 3], true⟩
    (.lett ⟨(.get [(8, 1)]), [vs 0, vf 3], false⟩
    (.lett ⟨(.get [(8, 2)]), [vs 0, vf 3], true⟩
    (.lett ⟨(.get [(8, 3)]), [vs 0, vf 3], true⟩
    (.lett ⟨(.get [(8, 4)]), [vs 0, vf 3], true⟩
    (.lett ⟨(.get [(8, 5)]), [vs 0, vf 3], false⟩
    (.lett ⟨(.get [(8, 6)]), [vs 0, vf 3], false⟩
    (.lett ⟨(.get [(8, 7)]), [vs 0, vf 3], true⟩
    (.lett ⟨(.bin .eql), [vf 6, .c (I 3)], true⟩
    (.ite (vf 14)
     (.lett ⟨(.bin .add), [vf 2, .c (I 1)], true⟩
     (.lett ⟨(.bin .add), [vf 3, .c (I 1)], true⟩
     (.again 0 [vf 15, vf 16])))
     (.call 74 [[vf 8, vf 9, vf 10, vs 11, vs 12]] [[true]]
     (.lett ⟨(.bin .add), [vf 2, vf 15], true⟩
     (.lett ⟨(.bin .add), [vf 3, .c (I 1)], true⟩
     (.again 0 [vf 16, vf 17])))))))))))))))
    (.ret [[vf 2]])))))
theorem c44 : compFn tab (hof [(11, [[true, false, true, true, true, false, false, true]]), (13, [[true]]), (19, [[true, true, true, false, false]]), (20, [[true]])]) a_impl_EditCost [[false]] = some t44 := by kernel_rfl

/-- laws.eqEditS -/
def t45 : Tr :=
  (.lett ⟨.len, [vs 0], true⟩
  (.lett ⟨.len, [vs 1], true⟩
  (.lett ⟨(.bin .neq), [vf 2, vf 3], true⟩
  (.ite (vf 4)
   (.ret [[.c (.bool false)]])
   (.loop 0 [.c (I 0)]
    (.lett ⟨.len, [vs 0], true⟩
    (.lett ⟨(.bin .lss), [vf 5, vf 6], true⟩
    (.ite (vf 7)
     (.lett ⟨(.inb 8), [vs 0, vf 5], true⟩
     (.lett ⟨(.get [(8, 0)]), [vs 0, vf 5], true⟩
     (.lett ⟨(.get [(8, 1)]), [vs 0, vf 5], false⟩
     (.lett ⟨(.get [(8, 2)]), [vs 0, vf 5], true⟩
     (.lett ⟨(.get [(8, 3)]), [vs 0, vf 5], true⟩
     (.lett ⟨(.get [(8, 4)]), [vs 0, vf 5], true⟩
     (.lett ⟨(.get [(8, 5)]), [vs 0, vf 5], false⟩
     (.lett ⟨(.get [(8, 6)]), [vs 0, vf 5], false⟩
     (.lett ⟨(.get [(8, 7)]), [vs 0, vf 5], true⟩
     (.lett ⟨(.inb 8), [vs 1, vf 5], true⟩
     (.lett ⟨(.get [(8, 0)]), [vs 1, vf 5], true⟩
     (.lett ⟨(.get [(8, 1)]), [vs 1, vf 5], false⟩
     (.lett ⟨(.get [(8, 2)]), [vs 1, vf 5], true⟩
     (.lett ⟨(.get [(8, 3)]), [vs 1, vf 5], true⟩
     (.lett ⟨(.get [(8, 4)]), [vs 1, vf 5], true⟩
     (.lett ⟨(.get [(8, 5)]), [vs 1, vf 5], false⟩
     (.lett ⟨(.get [(8, 6)]), [vs 1, vf 5], false⟩
     (.lett ⟨(.get [(8, 7)]), [vs 1, vf 5], true⟩
     (.call 75 [[vf 9, vs 10, vf 11, vf 12, vf 13, vs 14, vs 15, vf 16], [vf 18, vs 19, vf 20, vf 21, vf 22, vs 23, vs 24, vf 25]] [[true]]
     (.lett ⟨(.un .not), [vf 26], true⟩
     (.ite (vf 27)
      (.ret [[.c (.bool false)]])
      (.lett ⟨(.bin .add), [vf 5, .c (I 1)], true⟩
      (.again 0 [vf 28])))))))))))))))))))))))
     (.ret [[.c (.bool true)]])))))))))
theorem c45 : compFn tab (hof [(20, [[true, false, true, true, true, false, false, true]]), (24, [[true, false, true, true, true, false, false, true]]), (25, [[true]])]) a_laws_eqEditS [[false], [false]] = some t45 := by kernel_rfl

/-- laws.szEdit -/
def t71 : Tr :=
  (.call 11 [[vs 1], [vf 8]] [[true]]
  (.lett ⟨(.bin .lss), [vf 9, .c (I 0)], true⟩
  (.ite (vf 10)
   (.ret [[.c (I (-1))]])
   (.call 76 [[vf 2, vf 3, vf 4, vs 5, vs 6], [vf 9]] [[true]]
   (.lett ⟨(.bin .lss), [vf 11, .c (I 0)], true⟩
   (.ite (vf 12)
    (.ret [[.c (I (-1))]])
    (.ret [[vf 11]])))))))
theorem c71 : compFn tab (hof [(6, [[false]]), (8, [[true]]), (12, [[true, true, true, false, false]]), (14, [[true]])]) a_laws_szEdit [[true, false, true, true, true, false, false, true], [true]] = some t71 := by kernel_rfl

/-- laws.toEdit -/
def t73 : Tr :=
  (.call 13 [[vs 1]] [[false]]
  (.call 78 [[vf 2, vf 3, vf 4, vs 5, vs 6]] [[true, true, true, false, false]]
  (.ret [[vf 0, vs 8, vf 9, vf 10, vf 11, vs 12, vs 13, vf 7]])))
theorem c73 : compFn tab (hof [(5, [[true]]), (8, [[false]]), (9, [[false]]), (12, [[true, true, true, false, false]]), (13, [[true, true, true, false, false]]), (16, [[true]]), (18, [[true, false, true, true, true, false, false, true]])]) a_laws_toEdit [[true, false, true, true, true, false, false, true]] = some t73 := by kernel_rfl

/-- spec.SizeOfValue -/
def t72 : Tr :=
  (.loop 0 [.c (I 1), .c (I 0)]
   (.lett ⟨.len, [vs 4], true⟩
   (.lett ⟨(.bin .lss), [vf 6, vf 7], true⟩
   (.ite (vf 8)
    (.lett ⟨(.inb 5), [vs 4, vf 6], true⟩
    (.lett ⟨(.get [(5, 0)]), [vs 4, vf 6], true⟩
    (.lett ⟨(.get [(5, 1)]), [vs 4, vf 6], true⟩
    (.lett ⟨(.get [(5, 2)]), [vs 4, vf 6], true⟩
    (.lett ⟨(.get [(5, 3)]), [vs 4, vf 6], false⟩
    (.lett ⟨(.get [(5, 4)]), [vs 4, vf 6], false⟩
    (.call 72 [[vf 10, vf 11, vf 12, vs 13, vs 14]] [[true]]
    (.lett ⟨(.bin .add), [vf 5, vf 15], true⟩
    (.lett ⟨(.bin .add), [vf 6, .c (I 1)], true⟩
    (.again 0 [vf 16, vf 17]))))))))))
    (.ret [[vf 5]])))))
theorem c72 : compFn tab (hof [(7, [[false]]), (14, [[false]]), (17, [[true, true, true, false, false]]), (18, [[true]])]) a_spec_SizeOfValue [[true, true, true, false, false]] = some t72 := by kernel_rfl

/-- impl.SizeOfValue -/
def t74 : Tr :=
  (.lett ⟨.len, [vs 4], true⟩
  (.loop 0 [.c (I 1), .c (I 0)]
   (.lett ⟨(.bin .lss), [vf 7, vf 5], true⟩
   (.ite (vf 8)
    (.lett ⟨(.inb 5), [vs 4, vf 7], true⟩
    (.lett ⟨(.get [(5, 0)]), [vs 4, vf 7], true⟩
    (.lett ⟨(.get [(5, 1)]), [vs 4, vf 7], true⟩
    (.lett ⟨(.get [(5, 2)]), [vs 4, vf 7], true⟩
    (.lett ⟨(.get [(5, 3)]), [vs 4, vf 7], false⟩
    (.lett ⟨(.get [(5, 4)]), [vs 4, vf 7], false⟩
    (.call 74 [[vf 10, vf 11, vf 12, vs 13, vs 14]] [[true]]
    (.lett ⟨(.bin .add), [vf 6, vf 15], true⟩
    (.lett ⟨(.bin .add), [vf 7, .c (I 1)], true⟩
    (.again 0 [vf 16, vf 17]))))))))))
    (.ret [[vf 6]])))))
theorem c74 : compFn tab (hof [(7, [[false]]), (12, [[true, true, true, false, false]]), (14, [[true, true, true, false, false]]), (15, [[true]])]) a_impl_SizeOfValue [[true, true, true, false, false]] = some t74 := by kernel_rfl

/-- laws.eqEdit -/
def t75 : Tr :=
  (.lett ⟨(.bin .neq), [vf 0, vf 8], true⟩
  (.ite (vf 16)
   (.ret [[.c (.bool false)]])
   (.call 15 [[vs 1], [vs 9]] [[true]]
   (.lett ⟨(.un .not), [vf 17], true⟩
   (.ite (vf 18)
    (.ret [[.c (.bool false)]])
    (.call 81 [[vf 2, vf 3, vf 4, vs 5, vs 6], [vf 10, vf 11, vf 12, vs 13, vs 14]] [[true]]
    (.lett ⟨(.un .not), [vf 19], true⟩
    (.ite (vf 20)
     (.ret [[.c (.bool false)]])
     (.lett ⟨(.bin .neq), [vf 7, vf 15], true⟩
     (.ite (vf 21)
      (.ret [[.c (.bool false)]])
      (.ret [[.c (.bool true)]])))))))))))
theorem c75 : compFn tab (hof [(6, [[true]]), (8, [[true]]), (11, [[false]]), (13, [[false]]), (14, [[true]]), (17, [[true, true, true, false, false]]), (19, [[true, true, true, false, false]]), (20, [[true]]), (23, [[true]]), (25, [[true]])]) a_laws_eqEdit [[true, false, true, true, true, false, false, true], [true, false, true, true, true, false, false, true]] = some t75 := by kernel_rfl

/-- laws.szStepS -/
def t11 : Tr :=
  (.lett ⟨.len, [vs 0], true⟩
  (.lett ⟨(.bin .sub), [vf 1, vf 2], true⟩
  (.lett ⟨(.bin .lss), [vf 3, .c (I 0)], true⟩
  (.ite (vf 4)
   (.ret [[.c (I (-1))]])
   (.loop 0 [vf 3, .c (I 0)]
    (.lett ⟨.len, [vs 0], true⟩
    (.lett ⟨(.bin .lss), [vf 6, vf 7], true⟩
    (.ite (vf 8)
     (.lett ⟨(.inb 3), [vs 0, vf 6], true⟩
     (.lett ⟨(.get [(3, 0)]), [vs 0, vf 6], true⟩
     (.lett ⟨(.get [(3, 1)]), [vs 0, vf 6], true⟩
     (.lett ⟨(.get [(3, 2)]), [vs 0, vf 6], true⟩
     (.call 59 [[vf 10, vf 11, vf 12], [vf 5]] [[true]]
     (.lett ⟨(.bin .lss), [vf 13, .c (I 0)], true⟩
     (.ite (vf 14)
      (.ret [[.c (I (-1))]])
      (.lett ⟨(.bin .add), [vf 6, .c (I 1)], true⟩
      (.again 0 [vf 13, vf 15])))))))))
     (.ret [[vf 5]])))))))))
theorem c11 : compFn tab (hof [(21, [[true, true, true]]), (23, [[true]])]) a_laws_szStepS [[false], [true]] = some t11 := by kernel_rfl

/-- laws.szValue -/
def t76 : Tr :=
  (.lett ⟨.lenS, [vf 2], true⟩
  (.lett ⟨(.bin .sub), [vf 5, vf 6], true⟩
  (.lett ⟨(.bin .lss), [vf 7, .c (I 0)], true⟩
  (.ite (vf 8)
   (.ret [[.c (I (-1))]])
   (.call 97 [[vs 3], [vf 7]] [[true]]
   (.lett ⟨(.bin .lss), [vf 9, .c (I 0)], true⟩
   (.ite (vf 10)
    (.ret [[.c (I (-1))]])
    (.call 98 [[vs 4], [vf 9]] [[true]]
    (.lett ⟨(.bin .lss), [vf 11, .c (I 0)], true⟩
    (.ite (vf 12)
     (.ret [[.c (I (-1))]])
     (.ret [[vf 11]])))))))))))
theorem c76 : compFn tab (hof [(7, [[true]]), (13, [[false]]), (15, [[true]]), (19, [[false]]), (21, [[true]])]) a_laws_szValue [[true, true, true, false, false], [true]] = some t76 := by kernel_rfl

/-- laws.toStepS -/
def t13 : Tr :=
  (.lett ⟨.len, [vs 0], true⟩
  (.lett ⟨(.make 3 [(I 0), (.str ⟨#[]⟩), (I 0)]), [vf 1], false⟩
  (.loop 0 [vs 2, .c (I 0)]
   (.lett ⟨.len, [vs 0], true⟩
   (.lett ⟨(.bin .lss), [vf 4, vf 5], true⟩
   (.ite (vf 6)
    (.lett ⟨(.inb 3), [vs 0, vf 4], true⟩
    (.lett ⟨(.get [(3, 0)]), [vs 0, vf 4], true⟩
    (.lett ⟨(.get [(3, 1)]), [vs 0, vf 4], true⟩
    (.lett ⟨(.get [(3, 2)]), [vs 0, vf 4], true⟩
    (.call 60 [[vf 8, vf 9, vf 10]] [[true, true, true]]
    (.lett ⟨(.inb 3), [vs 3, vf 4], true⟩
    (.lett ⟨(.set [(3, 0)]), [vs 3, vf 4, vf 11, vf 12, vf 13], false⟩
    (.lett ⟨(.bin .add), [vf 4, .c (I 1)], true⟩
    (.again 0 [vs 15, vf 16])))))))))
    (.ret [[vs 3]])))))))
theorem c13 : compFn tab (hof [(19, [[true, true, true]]), (20, [[true, true, true]])]) a_laws_toStepS [[false]] = some t13 := by kernel_rfl

/-- laws.toValue -/
def t78 : Tr :=
  (.call 100 [[vs 3]] [[false]]
  (.call 101 [[vs 4]] [[false]]
  (.ret [[vf 0, vf 1, vf 2, vs 5, vs 6]])))
theorem c78 : compFn tab (hof [(5, [[true]]), (8, [[true]]), (11, [[true]]), (14, [[false]]), (15, [[false]]), (18, [[false]]), (19, [[false]]), (21, [[true, true, true, false, false]])]) a_laws_toValue [[true, true, true, false, false]] = some t78 := by kernel_rfl

/-- laws.eqStepS -/
def t15 : Tr :=
  (.lett ⟨.len, [vs 0], true⟩
  (.lett ⟨.len, [vs 1], true⟩
  (.lett ⟨(.bin .neq), [vf 2, vf 3], true⟩
  (.ite (vf 4)
   (.ret [[.c (.bool false)]])
   (.loop 0 [.c (I 0)]
    (.lett ⟨.len, [vs 0], true⟩
    (.lett ⟨(.bin .lss), [vf 5, vf 6], true⟩
    (.ite (vf 7)
     (.lett ⟨(.inb 3), [vs 0, vf 5], true⟩
     (.lett ⟨(.get [(3, 0)]), [vs 0, vf 5], true⟩
     (.lett ⟨(.get [(3, 1)]), [vs 0, vf 5], true⟩
     (.lett ⟨(.get [(3, 2)]), [vs 0, vf 5], true⟩
     (.lett ⟨(.inb 3), [vs 1, vf 5], true⟩
     (.lett ⟨(.get [(3, 0)]), [vs 1, vf 5], true⟩
     (.lett ⟨(.get [(3, 1)]), [vs 1, vf 5], true⟩
     (.lett ⟨(.get [(3, 2)]), [vs 1, vf 5], true⟩
     (.call 61 [[vf 9, vf 10, vf 11], [vf 13, vf 14, vf 15]] [[true]]
     (.lett ⟨(.un .not), [vf 16], true⟩
     (.ite (vf 17)
      (.ret [[.c (.bool false)]])
      (.lett ⟨(.bin .add), [vf 5, .c (I 1)], true⟩
      (.again 0 [vf 18])))))))))))))
     (.ret [[.c (.bool true)]])))))))))
theorem c15 : compFn tab (hof [(20, [[true, true, true]]), (24, [[true, true, true]]), (25, [[true]])]) a_laws_eqStepS [[false], [false]] = some t15 := by kernel_rfl

/-- laws.eqValue -/
def t81 : Tr :=
  (.lett ⟨(.bin .neq), [vf 0, vf 5], true⟩
  (.ite (vf 10)
   (.ret [[.c (.bool false)]])
   (.lett ⟨(.bin .neq), [vf 1, vf 6], true⟩
   (.ite (vf 11)
    (.ret [[.c (.bool false)]])
    (.lett ⟨(.bin .neq), [vf 2, vf 7], true⟩
    (.ite (vf 12)
     (.ret [[.c (.bool false)]])
     (.call 103 [[vs 3], [vs 8]] [[true]]
     (.lett ⟨(.un .not), [vf 13], true⟩
     (.ite (vf 14)
      (.ret [[.c (.bool false)]])
      (.call 104 [[vs 4], [vs 9]] [[true]]
      (.lett ⟨(.un .not), [vf 15], true⟩
      (.ite (vf 16)
       (.ret [[.c (.bool false)]])
       (.ret [[.c (.bool true)]])))))))))))))
theorem c81 : compFn tab (hof [(6, [[true]]), (8, [[true]]), (11, [[true]]), (13, [[true]]), (16, [[true]]), (18, [[true]]), (21, [[false]]), (23, [[false]]), (24, [[true]]), (27, [[false]]), (29, [[false]]), (30, [[true]])]) a_laws_eqValue [[true, true, true, false, false], [true, true, true, false, false]] = some t81 := by kernel_rfl

/-- laws.szStep -/
def t59 : Tr :=
  (.lett ⟨.lenS, [vf 1], true⟩
  (.lett ⟨(.bin .sub), [vf 3, vf 4], true⟩
  (.lett ⟨(.bin .lss), [vf 5, .c (I 0)], true⟩
  (.ite (vf 6)
   (.ret [[.c (I (-1))]])
   (.ret [[vf 5]])))))
theorem c59 : compFn tab (hof [(7, [[true]])]) a_laws_szStep [[true, true, true], [true]] = some t59 := by kernel_rfl

/-- laws.szStringS -/
def t97 : Tr :=
  (.lett ⟨.len, [vs 0], true⟩
  (.lett ⟨(.bin .sub), [vf 1, vf 2], true⟩
  (.lett ⟨(.bin .lss), [vf 3, .c (I 0)], true⟩
  (.ite (vf 4)
   (.ret [[.c (I (-1))]])
   (.loop 0 [vf 3, .c (I 0)]
    (.lett ⟨.len, [vs 0], true⟩
    (.lett ⟨(.bin .lss), [vf 6, vf 7], true⟩
    (.ite (vf 8)
     (.lett ⟨(.inb 1), [vs 0, vf 6], true⟩
     (.lett ⟨(.get [(1, 0)]), [vs 0, vf 6], true⟩
     (.lett ⟨.lenS, [vf 10], true⟩
     (.lett ⟨(.bin .sub), [vf 5, vf 11], true⟩
     (.lett ⟨(.bin .lss), [vf 12, .c (I 0)], true⟩
     (.ite (vf 13)
      (.ret [[.c (I (-1))]])
      (.lett ⟨(.bin .add), [vf 6, .c (I 1)], true⟩
      (.again 0 [vf 12, vf 14]))))))))
     (.ret [[vf 5]])))))))))
theorem c97 : compFn tab (hof [(22, [[true]])]) a_laws_szStringS [[false], [true]] = some t97 := by kernel_rfl

/-- laws.szValueS -/
def t98 : Tr :=
  (.lett ⟨.len, [vs 0], true⟩
  (.lett ⟨(.bin .sub), [vf 1, vf 2], true⟩
  (.lett ⟨(.bin .lss), [vf 3, .c (I 0)], true⟩
  (.ite (vf 4)
   (.ret [[.c (I (-1))]])
   (.loop 0 [vf 3, .c (I 0)]
    (.lett ⟨.len, [vs 0], true⟩
    (.lett ⟨(.bin .lss), [vf 6, vf 7], true⟩
    (.ite (vf 8)
     (.lett ⟨(.inb 5), [vs 0, vf 6], true⟩
     (.lett ⟨(.get [(5, 0)]), [vs 0, vf 6], true⟩
     (.lett ⟨(.get [(5, 1)]), [vs 0, vf 6], true⟩
     (.lett ⟨(.get [(5, 2)]), [vs 0, vf 6], true⟩
     (.lett ⟨(.get [(5, 3)]), [vs 0, vf 6], false⟩
     (.lett ⟨(.get [(5, 4)]), [vs 0, vf 6], false⟩
     (.call 76 [[vf 10, vf 11, vf 12, vs 13, vs 14], [vf 5]] [[true]]
     (.lett ⟨(.bin .lss), [vf 15, .c (I 0)], true⟩
     (.ite (vf 16)
      (.ret [[.c (I (-1))]])
      (.lett ⟨(.bin .add), [vf 6, .c (I 1)], true⟩
      (.again 0 [vf 15, vf 17])))))))))))
     (.ret [[vf 5]])))))))))
theorem c98 : compFn tab (hof [(21, [[true, true, true, false, false]]), (23, [[true]])]) a_laws_szValueS [[false], [true]] = some t98 := by kernel_rfl

/-- laws.toStep -/
def t60 : Tr :=
  (.ret [[vf 0, vf 1, vf 2]])
theorem c60 : compFn tab (hof [(5, [[true]]), (8, [[true]]), (11, [[true]]), (13, [[true, true, true]])]) a_laws_toStep [[true, true, true]] = some t60 := by kernel_rfl

/-- laws.toStringS -/
def t100 : Tr :=
  (.lett ⟨.len, [vs 0], true⟩
  (.lett ⟨(.make 1 [(.str ⟨#[]⟩)]), [vf 1], false⟩
  (.loop 0 [vs 2, .c (I 0)]
   (.lett ⟨.len, [vs 0], true⟩
   (.lett ⟨(.bin .lss), [vf 4, vf 5], true⟩
   (.ite (vf 6)
    (.lett ⟨(.inb 1), [vs 0, vf 4], true⟩
    (.lett ⟨(.get [(1, 0)]), [vs 0, vf 4], true⟩
    (.lett ⟨(.inb 1), [vs 3, vf 4], true⟩
    (.lett ⟨(.set [(1, 0)]), [vs 3, vf 4, vf 8], false⟩
    (.lett ⟨(.bin .add), [vf 4, .c (I 1)], true⟩
    (.again 0 [vs 10, vf 11]))))))
    (.ret [[vs 3]])))))))
theorem c100 : compFn tab (hof [(19, [[true]])]) a_laws_toStringS [[false]] = some t100 := by kernel_rfl

/-- laws.toValueS -/
def t101 : Tr :=
  (.lett ⟨.len, [vs 0], true⟩
  (.lett ⟨(.make 5 [(I 0), (I 0), (.str ⟨#[]⟩), (Z 1), (Z 5)]), [vf 1], false⟩
  (.loop 0 [vs 2, .c (I 0)]
   (.lett ⟨.len, [vs 0], true⟩
   (.lett ⟨(.bin .lss), [vf 4, vf 5], true⟩
   (.ite (vf 6)
    (.lett ⟨(.inb 5), [vs 0, vf 4], true⟩
    (.lett ⟨(.get [(5, 0)]), [vs 0, vf 4], true⟩
    (.lett ⟨(.get [(5, 1)]), [vs 0, vf 4], true⟩
    (.lett ⟨(.get [(5, 2)]), [vs 0, vf 4], true⟩
    (.lett ⟨(.get [(5, 3)]), [vs 0, vf 4], false⟩
    (.lett ⟨(.get [(5, 4)]), [vs 0, vf 4], false⟩
    (.call 78 [[vf 8, vf 9, vf 10, vs 11, vs 12]] [[true, true, true, false, false]]
    (.lett ⟨(.inb 5), [vs 3, vf 4], true⟩
    (.lett ⟨(.set [(5, 0)]), [vs 3, vf 4, vf 13, vf 14, vf 15, vs 16, vs 17], false⟩
    (.lett ⟨(.bin .add), [vf 4, .c (I 1)], true⟩
    (.again 0 [vs 19, vf 20])))))))))))
    (.ret [[vs 3]])))))))
theorem c101 : compFn tab (hof [(19, [[true, true, true, false, false]]), (20, [[true, true, true, false, false]])]) a_laws_toValueS [[false]] = some t101 := by kernel_rfl

/-- laws.eqStep -/
def t61 : Tr :=
  (.lett ⟨(.bin .neq), [vf 0, vf 3], true⟩
  (.ite (vf 6)
   (.ret [[.c (.bool false)]])
   (.lett ⟨(.bin .neq), [vf 1, vf 4], true⟩
   (.ite (vf 7)
    (.ret [[.c (.bool false)]])
    (.lett ⟨(.bin .neq), [vf 2, vf 5], true⟩
    (.ite (vf 8)
     (.ret [[.c (.bool false)]])
     (.ret [[.c (.bool true)]])))))))
theorem c61 : compFn tab (hof [(6, [[true]]), (8, [[true]]), (11, [[true]]), (13, [[true]]), (16, [[true]]), (18, [[true]])]) a_laws_eqStep [[true, true, true], [true, true, true]] = some t61 := by kernel_rfl

/-- laws.eqStringS -/
def t103 : Tr :=
  (.lett ⟨.len, [vs 0], true⟩
  (.lett ⟨.len, [vs 1], true⟩
  (.lett ⟨(.bin .neq), [vf 2, vf 3], true⟩
  (.ite (vf 4)
   (.ret [[.c (.bool false)]])
   (.loop 0 [.c (I 0)]
    (.lett ⟨.len, [vs 0], true⟩
    (.lett ⟨(.bin .lss), [vf 5, vf 6], true⟩
    (.ite (vf 7)
     (.lett ⟨(.inb 1), [vs 0, vf 5], true⟩
     (.lett ⟨(.get [(1, 0)]), [vs 0, vf 5], true⟩
     (.lett ⟨(.inb 1), [vs 1, vf 5], true⟩
     (.lett ⟨(.get [(1, 0)]), [vs 1, vf 5], true⟩
     (.lett ⟨(.bin .neq), [vf 9, vf 11], true⟩
     (.ite (vf 12)
      (.ret [[.c (.bool false)]])
      (.lett ⟨(.bin .add), [vf 5, .c (I 1)], true⟩
      (.again 0 [vf 13]))))))))
     (.ret [[.c (.bool true)]])))))))))
theorem c103 : compFn tab (hof [(20, [[true]]), (24, [[true]])]) a_laws_eqStringS [[false], [false]] = some t103 := by kernel_rfl

/-- laws.eqValueS -/
def t104 : Tr :=
  (.lett ⟨.len, [vs 0], true⟩
  (.lett ⟨.len, [vs 1], true⟩
  (.lett ⟨(.bin .neq), [vf 2, vf 3], true⟩
  (.ite (vf 4)
   (.ret [[.c (.bool false)]])
   (.loop 0 [.c (I 0)]
    (.lett ⟨.len, [vs 0], true⟩
    (.lett ⟨(.bin .lss), [vf 5, vf 6], true⟩
    (.ite (vf 7)
     (.lett ⟨(.inb 5), [vs 0, vf 5], true⟩
     (.lett ⟨(.get [(5, 0)]), [vs 0, vf 5], true⟩
     (.lett ⟨(.get [(5, 1)]), [vs 0, vf 5], true⟩
     (.lett ⟨(.get [(5, 2)]), [vs 0, vf 5], true⟩
     (.lett ⟨(.get [(5, 3)]), [vs 0, vf 5], false⟩
     (.lett ⟨(.get [(5, 4)]), [vs 0, vf 5], false⟩
     (.lett ⟨(.inb 5), [vs 1, vf 5], true⟩
     (.lett ⟨(.get [(5, 0)]), [vs 1, vf 5], true⟩
     (.lett ⟨(.get [(5, 1)]), [vs 1, vf 5], true⟩
     (.lett ⟨(.get [(5, 2)]), [vs 1, vf 5], true⟩
     (.lett ⟨(.get [(5, 3)]), [vs 1, vf 5], false⟩
     (.lett ⟨(.get [(5, 4)]), [vs 1, vf 5], false⟩
     (.call 81 [[vf 9, vf 10, vf 11, vs 12, vs 13], [vf 15, vf 16, vf 17, vs 18, vs 19]] [[true]]
     (.lett ⟨(.un .not), [vf 20], true⟩
     (.ite (vf 21)
      (.ret [[.c (.bool false)]])
      (.lett ⟨(.bin .add), [vf 5, .c (I 1)], true⟩
      (.again 0 [vf 22])))))))))))))))))
     (.ret [[.c (.bool true)]])))))))))
theorem c104 : compFn tab (hof [(20, [[true, true, true, false, false]]), (24, [[true, true, true, false, false]]), (25, [[true]])]) a_laws_eqValueS [[false], [false]] = some t104 := by kernel_rfl

end Go.Proofs.Ytkiliooegoldoaa
