/- The functions of the claim, as decision trees. -/
import Derived.Test.YtkiliooegoldoaaTab
import Derived.Test.YtkiliooegoldoaaRl
set_option maxRecDepth 100000
namespace Go.Proofs.Ytkiliooegoldoaa
open Go

/-- laws.FnExactEqualLog -/
def t138 : Tr :=
  (.call 148 [[vf 0, vs 1, vs 2, vf 3, vf 4, vf 5, vs 6, vs 7, vs 8, vs 9], [.c (I 1048576)]] [[true]]
  (.lett ⟨(.bin .lss), [vf 20, .c (I 0)], true⟩
  (.ite (vf 21)
   (.ret [[.c (.bool true)]])
   (.call 148 [[vf 10, vs 11, vs 12, vf 13, vf 14, vf 15, vs 16, vs 17, vs 18, vs 19], [vf 20]] [[true]]
   (.lett ⟨(.bin .lss), [vf 22, .c (I 0)], true⟩
   (.ite (vf 23)
    (.ret [[.c (.bool true)]])
    (.call 150 [[vf 0, vs 1, vs 2, vf 3, vf 4, vf 5, vs 6, vs 7, vs 8, vs 9]] [[true, false, false, true, true, true, false, false, false, false]]
    (.call 150 [[vf 10, vs 11, vs 12, vf 13, vf 14, vf 15, vs 16, vs 17, vs 18, vs 19]] [[true, false, false, true, true, true, false, false, false, false]]
    (.call 149 [[vf 24, vs 25, vs 26, vf 27, vf 28, vf 29, vs 30, vs 31, vs 32, vs 33], [vf 34, vs 35, vs 36, vf 37, vf 38, vf 39, vs 40, vs 41, vs 42, vs 43]] [[true]]
    (.call 150 [[vf 0, vs 1, vs 2, vf 3, vf 4, vf 5, vs 6, vs 7, vs 8, vs 9]] [[true, false, false, true, true, true, false, false, false, false]]
    (.call 150 [[vf 10, vs 11, vs 12, vf 13, vf 14, vf 15, vs 16, vs 17, vs 18, vs 19]] [[true, false, false, true, true, true, false, false, false, false]]
    (.call 151 [[vf 45, vs 46, vs 47, vf 48, vf 49, vf 50, vs 51, vs 52, vs 53, vs 54], [vf 55, vs 56, vs 57, vf 58, vf 59, vf 60, vs 61, vs 62, vs 63, vs 64]] [[true]]
    (.lett ⟨(.eqB true), [vf 65, vf 44], true⟩
    (.ite (vf 66)
     (.ret [[.c (.bool false)]])
     (.call 150 [[vf 0, vs 1, vs 2, vf 3, vf 4, vf 5, vs 6, vs 7, vs 8, vs 9]] [[true, false, false, true, true, true, false, false, false, false]]
     (.call 152 [[vf 45, vs 46, vs 47, vf 48, vf 49, vf 50, vs 51, vs 52, vs 53, vs 54], [vf 67, vs 68, vs 69, vf 70, vf 71, vf 72, vs 73, vs 74, vs 75, vs 76]] [[true]]
     (.lett ⟨(.un .not), [vf 77], true⟩
     (.ite (vf 78)
      (.ret [[.c (.bool false)]])
      (.call 150 [[vf 10, vs 11, vs 12, vf 13, vf 14, vf 15, vs 16, vs 17, vs 18, vs 19]] [[true, false, false, true, true, true, false, false, false, false]]
      (.call 152 [[vf 55, vs 56, vs 57, vf 58, vf 59, vf 60, vs 61, vs 62, vs 63, vs 64], [vf 79, vs 80, vs 81, vf 82, vf 83, vf 84, vs 85, vs 86, vs 87, vs 88]] [[true]]
      (.lett ⟨(.un .not), [vf 89], true⟩
      (.ite (vf 90)
       (.ret [[.c (.bool false)]])
       (.ret [[.c (.bool true)]])))))))))))))))))))))))
theorem c138 : compFn tab (hof [(10, [[true, false, false, true, true, true, false, false, false, false]]), (12, [[true]]), (15, [[true, false, false, true, true, true, false, false, false, false]]), (17, [[true]]), (20, [[true, false, false, true, true, true, false, false, false, false]]), (21, [[true, false, false, true, true, true, false, false, false, false]]), (22, [[true, false, false, true, true, true, false, false, false, false]]), (23, [[true, false, false, true, true, true, false, false, false, false]]), (24, [[true]]), (25, [[true, false, false, true, true, true, false, false, false, false]]), (26, [[true, false, false, true, true, true, false, false, false, false]]), (27, [[true, false, false, true, true, true, false, false, false, false]]), (28, [[true, false, false, true, true, true, false, false, false, false]]), (29, [[true, false, false, true, true, true, false, false, false, false]]), (30, [[true, false, false, true, true, true, false, false, false, false]]), (31, [[true]]), (35, [[true, false, false, true, true, true, false, false, false, false]]), (36, [[true, false, false, true, true, true, false, false, false, false]]), (37, [[true, false, false, true, true, true, false, false, false, false]]), (38, [[true]]), (40, [[true, false, false, true, true, true, false, false, false, false]]), (41, [[true, false, false, true, true, true, false, false, false, false]]), (42, [[true, false, false, true, true, true, false, false, false, false]]), (43, [[true]])]) a_laws_FnExactEqualLog [[true, false, false, true, true, true, false, false, false, false], [true, false, false, true, true, true, false, false, false, false]] = some t138 := by kernel_rfl

/-- laws.szLog -/
def t148 : Tr :=
  (.call 157 [[vf 0, vs 1, vs 2], [vf 10]] [[true]]
  (.lett ⟨(.bin .lss), [vf 11, .c (I 0)], true⟩
  (.ite (vf 12)
   (.ret [[.c (I (-1))]])
   (.call 76 [[vf 3, vf 4, vf 5, vs 6, vs 7], [vf 11]] [[true]]
   (.lett ⟨(.bin .lss), [vf 13, .c (I 0)], true⟩
   (.ite (vf 14)
    (.ret [[.c (I (-1))]])
    (.call 41 [[vs 8], [vf 13]] [[true]]
    (.lett ⟨(.bin .lss), [vf 15, .c (I 0)], true⟩
    (.ite (vf 16)
     (.ret [[.c (I (-1))]])
     (.call 41 [[vs 9], [vf 15]] [[true]]
     (.lett ⟨(.bin .lss), [vf 17, .c (I 0)], true⟩
     (.ite (vf 18)
      (.ret [[.c (I (-1))]])
      (.ret [[vf 17]])))))))))))))
theorem c148 : compFn tab (hof [(6, [[true, false, false]]), (8, [[true]]), (12, [[true, true, true, false, false]]), (14, [[true]]), (18, [[false]]), (20, [[true]]), (24, [[false]]), (26, [[true]])]) a_laws_szLog [[true, false, false, true, true, true, false, false, false, false], [true]] = some t148 := by kernel_rfl

/-- laws.toLog -/
def t150 : Tr :=
  (.call 159 [[vf 0, vs 1, vs 2]] [[true, false, false]]
  (.call 78 [[vf 3, vf 4, vf 5, vs 6, vs 7]] [[true, true, true, false, false]]
  (.call 43 [[vs 8]] [[false]]
  (.call 43 [[vs 9]] [[false]]
  (.ret [[vf 10, vs 11, vs 12, vf 13, vf 14, vf 15, vs 16, vs 17, vs 18, vs 19]])))))
theorem c150 : compFn tab (hof [(5, [[true, false, false]]), (6, [[true, false, false]]), (9, [[true, true, true, false, false]]), (10, [[true, true, true, false, false]]), (13, [[false]]), (14, [[false]]), (17, [[false]]), (18, [[false]]), (20, [[true, false, false, true, true, true, false, false, false, false]])]) a_laws_toLog [[true, false, false, true, true, true, false, false, false, false]] = some t150 := by kernel_rfl

/-- spec.EqualLog -/
def t149 : Tr :=
  (.call 174 [[vf 0, vs 1, vs 2], [vf 10, vs 11, vs 12]] [[true]]
  (.ite (vf 20)
   (.call 175 [[vf 3, vf 4, vf 5, vs 6, vs 7], [vf 13, vf 14, vf 15, vs 16, vs 17]] [[true]]
   (.ite (vf 21)
    (.call 176 [[vs 8], [vs 18]] [[true]]
    (.ite (vf 22)
     (.call 176 [[vs 9], [vs 19]] [[true]]
     (.ret [[vf 23]]))
     (.ret [[.c (.bool false)]])))
    (.ret [[.c (.bool false)]])))
   (.ret [[.c (.bool false)]])))
theorem c149 : compFn tab (hof [(6, [[true, false, false]]), (8, [[true, false, false]]), (9, [[true]]), (12, [[true, true, true, false, false]]), (14, [[true, true, true, false, false]]), (15, [[true]]), (19, [[false]]), (21, [[false]]), (22, [[true]]), (26, [[false]]), (28, [[false]]), (29, [[true]])]) a_spec_EqualLog [[true, false, false, true, true, true, false, false, false, false], [true, false, false, true, true, true, false, false, false, false]] = some t149 := by kernel_rfl

/-- impl.EqualLog -/
def t151 : Tr :=
  (.call 177 [[vf 0, vs 1, vs 2], [vf 10, vs 11, vs 12]] [[true]]
  (.ite (vf 20)
   (.call 178 [[vf 3, vf 4, vf 5, vs 6, vs 7], [vf 13, vf 14, vf 15, vs 16, vs 17]] [[true]]
   (.ite (vf 21)
    (.call 179 [[vs 8], [vs 18]] [[true]]
    (.ite (vf 22)
     (.call 179 [[vs 9], [vs 19]] [[true]]
     (.ret [[vf 23]]))
     (.ret [[.c (.bool false)]])))
    (.ret [[.c (.bool false)]])))
   (.ret [[.c (.bool false)]])))
theorem c151 : compFn tab (hof [(6, [[true, false, false]]), (8, [[true, false, false]]), (9, [[true]]), (12, [[true, true, true, false, false]]), (14, [[true, true, true, false, false]]), (15, [[true]]), (19, [[false]]), (21, [[false]]), (22, [[true]]), (26, [[false]]), (28, [[false]]), (29, [[true]])]) a_impl_EqualLog [[true, false, false, true, true, true, false, false, false, false], [true, false, false, true, true, true, false, false, false, false]] = some t151 := by kernel_rfl

/-- laws.eqLog -/
def t152 : Tr :=
  (.call 161 [[vf 0, vs 1, vs 2], [vf 10, vs 11, vs 12]] [[true]]
  (.lett ⟨(.un .not), [vf 20], true⟩
  (.ite (vf 21)
   (.ret [[.c (.bool false)]])
   (.call 81 [[vf 3, vf 4, vf 5, vs 6, vs 7], [vf 13, vf 14, vf 15, vs 16, vs 17]] [[true]]
   (.lett ⟨(.un .not), [vf 22], true⟩
   (.ite (vf 23)
    (.ret [[.c (.bool false)]])
    (.call 45 [[vs 8], [vs 18]] [[true]]
    (.lett ⟨(.un .not), [vf 24], true⟩
    (.ite (vf 25)
     (.ret [[.c (.bool false)]])
     (.call 45 [[vs 9], [vs 19]] [[true]]
     (.lett ⟨(.un .not), [vf 26], true⟩
     (.ite (vf 27)
      (.ret [[.c (.bool false)]])
      (.ret [[.c (.bool true)]])))))))))))))
theorem c152 : compFn tab (hof [(6, [[true, false, false]]), (8, [[true, false, false]]), (9, [[true]]), (12, [[true, true, true, false, false]]), (14, [[true, true, true, false, false]]), (15, [[true]]), (18, [[false]]), (20, [[false]]), (21, [[true]]), (24, [[false]]), (26, [[false]]), (27, [[true]])]) a_laws_eqLog [[true, false, false, true, true, true, false, false, false, false], [true, false, false, true, true, true, false, false, false, false]] = some t152 := by kernel_rfl

/-- laws.szType -/
def t157 : Tr :=
  (.call 97 [[vs 1], [vf 3]] [[true]]
  (.lett ⟨(.bin .lss), [vf 4, .c (I 0)], true⟩
  (.ite (vf 5)
   (.ret [[.c (I (-1))]])
   (.call 184 [[vs 2], [vf 4]] [[true]]
   (.lett ⟨(.bin .lss), [vf 6, .c (I 0)], true⟩
   (.ite (vf 7)
    (.ret [[.c (I (-1))]])
    (.ret [[vf 6]])))))))
theorem c157 : compFn tab (hof [(6, [[false]]), (8, [[true]]), (12, [[false]]), (14, [[true]])]) a_laws_szType [[true, false, false], [true]] = some t157 := by kernel_rfl

/-- laws.szValue -/
def t76 : Tr :=
  (.lett ⟨.lenS, [vf 2], true⟩
  (.lett ⟨(.bin .sub), [vf 5, vf 6], true⟩
  (.lett ⟨(.bin .lss), [vf 7, .c (I 0)], true⟩
  (.ite (vf 8)
   (.ret [[.c (I (-1))]])
   (.call 97 [[vs 3], [vf 7]] [[true]]
   (.lett ⟨(.bin .lss), [vf 9, .c (I 0)], true⟩
   (.ite (vf 10)
    (.ret [[.c (I (-1))]])
    (.call 98 [[vs 4], [vf 9]] [[true]]
    (.lett ⟨(.bin .lss), [vf 11, .c (I 0)], true⟩
    (.ite (vf 12)
     (.ret [[.c (I (-1))]])
     (.ret [[vf 11]])))))))))))
theorem c76 : compFn tab (hof [(7, [[true]]), (13, [[false]]), (15, [[true]]), (19, [[false]]), (21, [[true]])]) a_laws_szValue [[true, true, true, false, false], [true]] = some t76 := by kernel_rfl

/-- laws.szEditS -/
def t41 : Tr :=
  (.lett ⟨.len, [vs 0], true⟩
  (.lett ⟨(.bin .sub), [vf 1, vf 2], true⟩
  (.lett ⟨(.bin .lss), [vf 3, .c (I 0)], true⟩
  (.ite (vf 4)
   (.ret [[.c (I (-1))]])
   (.loop 0 [vf 3, .c (I 0)]
    (.lett ⟨.len, [vs 0], true⟩
    (.lett ⟨(.bin .lss), [vf 6, vf 7], true⟩
    (.ite (vf 8)
     (.lett ⟨(.inb 8), [vs 0, vf 6], true⟩
     (.lett ⟨(.get [(8, 0)]), [vs 0, vf 6], true⟩
     (.lett ⟨(.get [(8, 1)]), [vs 0, vf 6], false⟩
     (.lett ⟨(.get [(8, 2)]), [vs 0, vf 6], true⟩
     (.lett ⟨(.get [(8, 3)]), [vs 0, vf 6], true⟩
     (.lett ⟨(.get [(8, 4)]), [vs 0, vf 6], true⟩
     (.lett ⟨(.get [(8, 5)]), [vs 0, vf 6], false⟩
     (.lett ⟨(.get [(8, 6)]), [vs 0, vf 6], false⟩
     (.lett ⟨(.get [(8, 7)]), [vs 0, vf 6], true⟩
     (.call 71 [[vf 10, vs 11, vf 12, vf 13, vf 14, vs 15, vs 16, vf 17], [vf 5]] [[true]]
     (.lett ⟨(.bin .lss), [vf 18, .c (I 0)], true⟩
     (.ite (vf 19)
      (.ret [[.c (I (-1))]])
      (.lett ⟨(.bin .add), [vf 6, .c (I 1)], true⟩
      (.again 0 [vf 18, vf 20]))))))))))))))
     (.ret [[vf 5]])))))))))
theorem c41 : compFn tab (hof [(21, [[true, false, true, true, true, false, false, true]]), (23, [[true]])]) a_laws_szEditS [[false], [true]] = some t41 := by kernel_rfl

/-- laws.toType -/
def t159 : Tr :=
  (.call 100 [[vs 1]] [[false]]
  (.call 188 [[vs 2]] [[false]]
  (.ret [[vf 0, vs 3, vs 4]])))
theorem c159 : compFn tab (hof [(5, [[true]]), (8, [[false]]), (9, [[false]]), (12, [[false]]), (13, [[false]]), (15, [[true, false, false]])]) a_laws_toType [[true, false, false]] = some t159 := by kernel_rfl

/-- laws.toValue -/
def t78 : Tr :=
  (.call 100 [[vs 3]] [[false]]
  (.call 101 [[vs 4]] [[false]]
  (.ret [[vf 0, vf 1, vf 2, vs 5, vs 6]])))
theorem c78 : compFn tab (hof [(5, [[true]]), (8, [[true]]), (11, [[true]]), (14, [[false]]), (15, [[false]]), (18, [[false]]), (19, [[false]]), (21, [[true, true, true, false, false]])]) a_laws_toValue [[true, true, true, false, false]] = some t78 := by kernel_rfl

/-- laws.toEditS -/
def t43 : Tr :=
  (.lett ⟨.len, [vs 0], true⟩
  (.lett ⟨(.make 8 [(I 0), (Z 3), (I 0), (I 0), (.str ⟨#[]⟩), (Z 1), (Z 5), (I 0)]), [vf 1], false⟩
  (.loop 0 [vs 2, .c (I 0)]
   (.lett ⟨.len, [vs 0], true⟩
   (.lett ⟨(.bin .lss), [vf 4, vf 5], true⟩
   (.ite (vf 6)
    (.lett ⟨(.inb 8), [vs 0, vf 4], true⟩
    (.lett ⟨(.get [(8, 0)]), [vs 0, vf 4], true⟩
    (.lett ⟨(.get [(8, 1)]), [vs 0, vf 4], false⟩
    (.lett ⟨(.get [(8, 2)]), [vs 0, vf 4], true⟩
    (.lett ⟨(.get [(8, 3)]), [vs 0, vf 4], true⟩
    (.lett ⟨(.get [(8, 4)]), [vs 0, vf 4], true⟩
    (.lett ⟨(.get [(8, 5)]), [vs 0, vf 4], false⟩
    (.lett ⟨(.get [(8, 6)]), [vs 0, vf 4], false⟩
    (.lett ⟨(.get [(8, 7)]), [vs 0, vf 4], true⟩
    (.call 73 [[vf 8, vs 9, vf 10, vf 11, vf 12, vs 13, vs 14, vf 15]] [[true, false, true, true, true, false, false, true]]
    (.lett ⟨(.inb 8), [vs 3, vf 4], true⟩
    (.lett ⟨(.set [(8, 0)]), [vs 3, vf 4, vf 16, vs 17, vf 18, vf 19, vf 20, vs 21, vs 22, vf 23], false⟩
    (.lett ⟨(.bin .add), [vf 4, .c (I 1)], true⟩
    (.again 0 [vs 25, vf 26]))))))))))))))
    (.ret [[vs 3]])))))))
theorem c43 : compFn tab (hof [(19, [[true, false, true, true, true, false, false, true]]), (20, [[true, false, true, true, true, false, false, true]])]) a_laws_toEditS [[false]] = some t43 := by kernel_rfl

/-- spec.EqualType -/
def t174 : Tr :=
  (.lett ⟨(.bin .neq), [vf 0, vf 3], true⟩
  (.ite (vf 6)
   (.ret [[.c (.bool false)]])
   (.call 208 [[vs 1], [vs 4]] [[true]]
   (.lett ⟨(.un .not), [vf 7], true⟩
   (.ite (vf 8)
    (.ret [[.c (.bool false)]])
    (.lett ⟨.len, [vs 2], true⟩
    (.lett ⟨.len, [vs 5], true⟩
    (.lett ⟨(.bin .neq), [vf 9, vf 10], true⟩
    (.ite (vf 11)
     (.ret [[.c (.bool false)]])
     (.loop 0 [.c (I 0)]
      (.lett ⟨.len, [vs 2], true⟩
      (.lett ⟨(.bin .lss), [vf 12, vf 13], true⟩
      (.ite (vf 14)
       (.lett ⟨(.inb 3), [vs 2, vf 12], true⟩
       (.lett ⟨(.get [(3, 0)]), [vs 2, vf 12], true⟩
       (.lett ⟨(.get [(3, 1)]), [vs 2, vf 12], false⟩
       (.lett ⟨(.get [(3, 2)]), [vs 2, vf 12], false⟩
       (.lett ⟨(.inb 3), [vs 5, vf 12], true⟩
       (.lett ⟨(.get [(3, 0)]), [vs 5, vf 12], true⟩
       (.lett ⟨(.get [(3, 1)]), [vs 5, vf 12], false⟩
       (.lett ⟨(.get [(3, 2)]), [vs 5, vf 12], false⟩
       (.call 174 [[vf 16, vs 17, vs 18], [vf 20, vs 21, vs 22]] [[true]]
       (.lett ⟨(.un .not), [vf 23], true⟩
       (.ite (vf 24)
        (.ret [[.c (.bool false)]])
        (.lett ⟨(.bin .add), [vf 12, .c (I 1)], true⟩
        (.again 0 [vf 25])))))))))))))
       (.ret [[.c (.bool true)]]))))))))))))))
theorem c174 : compFn tab (hof [(7, [[true]]), (9, [[true]]), (13, [[false]]), (15, [[false]]), (16, [[true]]), (21, [[false]]), (24, [[false]]), (30, [[false]]), (36, [[false]]), (39, [[true, false, false]]), (41, [[false]]), (44, [[true, false, false]]), (45, [[true]])]) a_spec_EqualType [[true, false, false], [true, false, false]] = some t174 := by kernel_rfl

/-- spec.EqualValue -/
def t175 : Tr :=
  (.lett ⟨(.bin .neq), [vf 0, vf 5], true⟩
  (.ite (vf 10)
   (.ret [[.c (.bool false)]])
   (.lett ⟨(.bin .neq), [vf 1, vf 6], true⟩
   (.ite (vf 11)
    (.ret [[.c (.bool false)]])
    (.lett ⟨(.bin .neq), [vf 2, vf 7], true⟩
    (.ite (vf 12)
     (.ret [[.c (.bool false)]])
     (.call 208 [[vs 3], [vs 8]] [[true]]
     (.lett ⟨(.un .not), [vf 13], true⟩
     (.ite (vf 14)
      (.ret [[.c (.bool false)]])
      (.lett ⟨.len, [vs 4], true⟩
      (.lett ⟨.len, [vs 9], true⟩
      (.lett ⟨(.bin .neq), [vf 15, vf 16], true⟩
      (.ite (vf 17)
       (.ret [[.c (.bool false)]])
       (.loop 0 [.c (I 0)]
        (.lett ⟨.len, [vs 4], true⟩
        (.lett ⟨(.bin .lss), [vf 18, vf 19], true⟩
        (.ite (vf 20)
         (.lett ⟨(.inb 5), [vs 4, vf 18], true⟩
         (.lett ⟨(.get [(5, 0)]), [vs 4, vf 18], true⟩
         (.lett ⟨(.get [(5, 1)]), [vs 4, vf 18], true⟩
         (.lett ⟨(.get [(5, 2)]), [vs 4, vf 18], true⟩
         (.lett ⟨(.get [(5, 3)]), [vs 4, vf 18], false⟩
         (.lett ⟨(.get [(5, 4)]), [vs 4, vf 18], false⟩
         (.lett ⟨(.inb 5), [vs 9, vf 18], true⟩
         (.lett ⟨(.get [(5, 0)]), [vs 9, vf 18], true⟩
         (.lett ⟨(.get [(5, 1)]), [vs 9, vf 18], true⟩
         (.lett ⟨(.get [(5, 2)]), [vs 9, vf 18], true⟩
         (.lett ⟨(.get [(5, 3)]), [vs 9, vf 18], false⟩
         (.lett ⟨(.get [(5, 4)]), [vs 9, vf 18], false⟩
         (.call 175 [[vf 22, vf 23, vf 24, vs 25, vs 26], [vf 28, vf 29, vf 30, vs 31, vs 32]] [[true]]
         (.lett ⟨(.un .not), [vf 33], true⟩
         (.ite (vf 34)
          (.ret [[.c (.bool false)]])
          (.lett ⟨(.bin .add), [vf 18, .c (I 1)], true⟩
          (.again 0 [vf 35])))))))))))))))))
         (.ret [[.c (.bool true)]]))))))))))))))))))
theorem c175 : compFn tab (hof [(7, [[true]]), (9, [[true]]), (13, [[true]]), (15, [[true]]), (20, [[true]]), (22, [[true]]), (27, [[false]]), (29, [[false]]), (30, [[true]]), (35, [[false]]), (38, [[false]]), (44, [[false]]), (50, [[false]]), (53, [[true, true, true, false, false]]), (55, [[false]]), (58, [[true, true, true, false, false]]), (59, [[true]])]) a_spec_EqualValue [[true, true, true, false, false], [true, true, true, false, false]] = some t175 := by kernel_rfl

/-- spec.l21Same -/
def t176 : Tr :=
  (.lett ⟨.len, [vs 0], true⟩
  (.lett ⟨.len, [vs 1], true⟩
  (.lett ⟨(.bin .neq), [vf 2, vf 3], true⟩
  (.ite (vf 4)
   (.ret [[.c (.bool false)]])
   (.loop 0 [.c (I 0)]
    (.lett ⟨.len, [vs 0], true⟩
    (.lett ⟨(.bin .lss), [vf 5, vf 6], true⟩
    (.ite (vf 7)
     (.lett ⟨(.inb 8), [vs 0, vf 5], true⟩
     (.lett ⟨(.get [(8, 0)]), [vs 0, vf 5], true⟩
     (.lett ⟨(.get [(8, 1)]), [vs 0, vf 5], false⟩
     (.lett ⟨(.get [(8, 2)]), [vs 0, vf 5], true⟩
     (.lett ⟨(.get [(8, 3)]), [vs 0, vf 5], true⟩
     (.lett ⟨(.get [(8, 4)]), [vs 0, vf 5], true⟩
     (.lett ⟨(.get [(8, 5)]), [vs 0, vf 5], false⟩
     (.lett ⟨(.get [(8, 6)]), [vs 0, vf 5], false⟩
     (.lett ⟨(.get [(8, 7)]), [vs 0, vf 5], true⟩
     (.lett ⟨(.inb 8), [vs 1, vf 5], true⟩
     (.lett ⟨(.get [(8, 0)]), [vs 1, vf 5], true⟩
     (.lett ⟨(.get [(8, 1)]), [vs 1, vf 5], false⟩
     (.lett ⟨(.get [(8, 2)]), [vs 1, vf 5], true⟩
     (.lett ⟨(.get [(8, 3)]), [vs 1, vf 5], true⟩
     (.lett ⟨(.get [(8, 4)]), [vs 1, vf 5], true⟩
     (.lett ⟨(.get [(8, 5)]), [vs 1, vf 5], false⟩
     (.lett ⟨(.get [(8, 6)]), [vs 1, vf 5], false⟩
     (.lett ⟨(.get [(8, 7)]), [vs 1, vf 5], true⟩
     (.call 209 [[vf 9, vs 10, vf 11, vf 12, vf 13, vs 14, vs 15, vf 16], [vf 18, vs 19, vf 20, vf 21, vf 22, vs 23, vs 24, vf 25]] [[true]]
     (.lett ⟨(.un .not), [vf 26], true⟩
     (.ite (vf 27)
      (.ret [[.c (.bool false)]])
      (.lett ⟨(.bin .add), [vf 5, .c (I 1)], true⟩
      (.again 0 [vf 28])))))))))))))))))))))))
     (.ret [[.c (.bool true)]])))))))))
theorem c176 : compFn tab (hof [(20, [[true, false, true, true, true, false, false, true]]), (24, [[true, false, true, true, true, false, false, true]]), (25, [[true]])]) a_spec_l21Same [[false], [false]] = some t176 := by kernel_rfl

/-- impl.EqualType -/
def t177 : Tr :=
  (.lett ⟨(.bin .neq), [vf 0, vf 3], true⟩
  (.ite (vf 6)
   (.ret [[.c (.bool false)]])
   (.call 210 [[vs 1], [vs 4]] [[true]]
   (.lett ⟨(.un .not), [vf 7], true⟩
   (.ite (vf 8)
    (.ret [[.c (.bool false)]])
    (.lett ⟨.len, [vs 2], true⟩
    (.lett ⟨.len, [vs 5], true⟩
    (.lett ⟨(.bin .neq), [vf 9, vf 10], true⟩
    (.ite (vf 11)
     (.ret [[.c (.bool false)]])
     (.lett ⟨.len, [vs 2], true⟩
     (.loop 0 [.c (I 0)]
      (.lett ⟨(.bin .lss), [vf 13, vf 12], true⟩
      (.ite (vf 14)
       (.lett ⟨(.inb 3), [vs 2, vf 13], true⟩
       (.lett ⟨(.get [(3, 0)]), [vs 2, vf 13], true⟩
       (.lett ⟨(.get [(3, 1)]), [vs 2, vf 13], false⟩
       (.lett ⟨(.get [(3, 2)]), [vs 2, vf 13], false⟩
       (.lett ⟨(.inb 3), [vs 5, vf 13], true⟩
       (.lett ⟨(.get [(3, 0)]), [vs 5, vf 13], true⟩
       (.lett ⟨(.get [(3, 1)]), [vs 5, vf 13], false⟩
       (.lett ⟨(.get [(3, 2)]), [vs 5, vf 13], false⟩
       (.call 177 [[vf 16, vs 17, vs 18], [vf 20, vs 21, vs 22]] [[true]]
       (.lett ⟨(.un .not), [vf 23], true⟩
       (.ite (vf 24)
        (.ret [[.c (.bool false)]])
        (.lett ⟨(.bin .add), [vf 13, .c (I 1)], true⟩
        (.again 0 [vf 25])))))))))))))
       (.ret [[.c (.bool true)]]))))))))))))))
theorem c177 : compFn tab (hof [(7, [[true]]), (9, [[true]]), (13, [[false]]), (15, [[false]]), (16, [[true]]), (21, [[false]]), (24, [[false]]), (29, [[false]]), (35, [[false]]), (38, [[true, false, false]]), (40, [[false]]), (43, [[true, false, false]]), (44, [[true]])]) a_impl_EqualType [[true, false, false], [true, false, false]] = some t177 := by kernel_rfl

/-- impl.EqualValue -/
def t178 : Tr :=
  (.lett ⟨(.bin .eql), [vf 0, vf 5], true⟩
  (.ite (vf 10)
   (.lett ⟨(.bin .eql), [vf 1, vf 6], true⟩
   (.ite (vf 11)
    (.lett ⟨(.bin .eql), [vf 2, vf 7], true⟩
    (.ite (vf 12)
     (.call 210 [[vs 3], [vs 8]] [[true]]
     (.ite (vf 13)
      (.call 211 [[vs 4], [vs 9]] [[true]]
      (.ret [[vf 14]]))
      (.ret [[.c (.bool false)]])))
     (.ret [[.c (.bool false)]])))
    (.ret [[.c (.bool false)]])))
   (.ret [[.c (.bool false)]])))
theorem c178 : compFn tab (hof [(6, [[true]]), (8, [[true]]), (12, [[true]]), (14, [[true]]), (19, [[true]]), (21, [[true]]), (26, [[false]]), (28, [[false]]), (29, [[true]]), (33, [[false]]), (35, [[false]]), (36, [[true]])]) a_impl_EqualValue [[true, true, true, false, false], [true, true, true, false, false]] = some t178 := by kernel_rfl

/-- impl.sameEdits -/
def t179 : Tr :=
  (.lett ⟨.len, [vs 0], true⟩
  (.lett ⟨.len, [vs 1], true⟩
  (.lett ⟨(.bin .neq), [vf 2, vf 3], true⟩
  (.ite (vf 4)
   (.ret [[.c (.bool false)]])
   (.lett ⟨.len, [vs 0], true⟩
   (.loop 0 [.c (I 0)]
    (.lett ⟨(.bin .lss), [vf 6, vf 5], true⟩
    (.ite (vf 7)
     (.lett ⟨(.inb 8), [vs 0, vf 6], true⟩
     (.lett ⟨(.get [(8, 0)]), [vs 0, vf 6], true⟩
     (.lett ⟨(.get [(8, 1)]), [vs 0, vf 6], false⟩
     (.lett ⟨(.get [(8, 2)]), [vs 0, vf 6], true⟩
     (.lett ⟨(.get [(8, 3)]), [vs 0, vf 6], true⟩
     (.lett ⟨(.get [(8, 4)]), [vs 0, vf 6], true⟩
     (.lett ⟨(.get [(8, 5)]), [vs 0, vf 6], false⟩
     (.lett ⟨(.get [(8, 6)]), [vs 0, vf 6], false⟩
     (.lett ⟨(.get [(8, 7)]), [vs 0, vf 6], true⟩
     (.lett ⟨(.inb 8), [vs 1, vf 6], true⟩
     (.lett ⟨(.get [(8, 0)]), [vs 1, vf 6], true⟩
     (.lett ⟨(.get [(8, 1)]), [vs 1, vf 6], false⟩
     (.lett ⟨(.get [(8, 2)]), [vs 1, vf 6], true⟩
     (.lett ⟨(.get [(8, 3)]), [vs 1, vf 6], true⟩
     (.lett ⟨(.get [(8, 4)]), [vs 1, vf 6], true⟩
     (.lett ⟨(.get [(8, 5)]), [vs 1, vf 6], false⟩
     (.lett ⟨(.get [(8, 6)]), [vs 1, vf 6], false⟩
     (.lett ⟨(.get [(8, 7)]), [vs 1, vf 6], true⟩
     (.lett ⟨(.bin .neq), [vf 9, vf 18], true⟩
     (.ite (vf 26)
      (.ret [[.c (.bool false)]])
      (.lett ⟨(.bin .neq), [vf 16, vf 25], true⟩
      (.ite (vf 27)
       (.ret [[.c (.bool false)]])
       (.lett ⟨.len, [vs 10], true⟩
       (.lett ⟨.len, [vs 19], true⟩
       (.lett ⟨(.bin .neq), [vf 28, vf 29], true⟩
       (.ite (vf 30)
        (.ret [[.c (.bool false)]])
        (.call 14 [[vs 10], [vs 19]] [[true]]
        (.lett ⟨(.un .not), [vf 31], true⟩
        (.ite (vf 32)
         (.ret [[.c (.bool false)]])
         (.call 178 [[vf 11, vf 12, vf 13, vs 14, vs 15], [vf 20, vf 21, vf 22, vs 23, vs 24]] [[true]]
         (.lett ⟨(.un .not), [vf 33], true⟩
         (.ite (vf 34)
          (.ret [[.c (.bool false)]])
          (.lett ⟨(.bin .add), [vf 6, .c (I 1)], true⟩
          (.again 0 [vf 35]))))))))))))))))))))))))))))))))))
     (.ret [[.c (.bool true)]])))))))))
theorem c179 : compFn tab (hof [(19, [[true, false, true, true, true, false, false, true]]), (23, [[true, false, true, true, true, false, false, true]]), (25, [[true]]), (27, [[true]]), (31, [[true]]), (33, [[true]]), (38, [[false]]), (41, [[false]]), (47, [[false]]), (49, [[false]]), (50, [[true]]), (55, [[true, true, true, false, false]]), (57, [[true, true, true, false, false]]), (58, [[true]])]) a_impl_sameEdits [[false], [false]] = some t179 := by kernel_rfl

/-- laws.eqType -/
def t161 : Tr :=
  (.lett ⟨(.bin .neq), [vf 0, vf 3], true⟩
  (.ite (vf 6)
   (.ret [[.c (.bool false)]])
   (.call 103 [[vs 1], [vs 4]] [[true]]
   (.lett ⟨(.un .not), [vf 7], true⟩
   (.ite (vf 8)
    (.ret [[.c (.bool false)]])
    (.call 192 [[vs 2], [vs 5]] [[true]]
    (.lett ⟨(.un .not), [vf 9], true⟩
    (.ite (vf 10)
     (.ret [[.c (.bool false)]])
     (.ret [[.c (.bool true)]])))))))))
theorem c161 : compFn tab (hof [(6, [[true]]), (8, [[true]]), (11, [[false]]), (13, [[false]]), (14, [[true]]), (17, [[false]]), (19, [[false]]), (20, [[true]])]) a_laws_eqType [[true, false, false], [true, false, false]] = some t161 := by kernel_rfl

/-- laws.eqValue -/
def t81 : Tr :=
  (.lett ⟨(.bin .neq), [vf 0, vf 5], true⟩
  (.ite (vf 10)
   (.ret [[.c (.bool false)]])
   (.lett ⟨(.bin .neq), [vf 1, vf 6], true⟩
   (.ite (vf 11)
    (.ret [[.c (.bool false)]])
    (.lett ⟨(.bin .neq), [vf 2, vf 7], true⟩
    (.ite (vf 12)
     (.ret [[.c (.bool false)]])
     (.call 103 [[vs 3], [vs 8]] [[true]]
     (.lett ⟨(.un .not), [vf 13], true⟩
     (.ite (vf 14)
      (.ret [[.c (.bool false)]])
      (.call 104 [[vs 4], [vs 9]] [[true]]
      (.lett ⟨(.un .not), [vf 15], true⟩
      (.ite (vf 16)
       (.ret [[.c (.bool false)]])
       (.ret [[.c (.bool true)]])))))))))))))
theorem c81 : compFn tab (hof [(6, [[true]]), (8, [[true]]), (11, [[true]]), (13, [[true]]), (16, [[true]]), (18, [[true]]), (21, [[false]]), (23, [[false]]), (24, [[true]]), (27, [[false]]), (29, [[false]]), (30, [[true]])]) a_laws_eqValue [[true, true, true, false, false], [true, true, true, false, false]] = some t81 := by kernel_rfl

/-- laws.eqEditS -/
def t45 : Tr :=
  (.lett ⟨.len, [vs 0], true⟩
  (.lett ⟨.len, [vs 1], true⟩
  (.lett ⟨(.bin .neq), [vf 2, vf 3], true⟩
  (.ite (vf 4)
   (.ret [[.c (.bool false)]])
   (.loop 0 [.c (I 0)]
    (.lett ⟨.len, [vs 0], true⟩
    (.lett ⟨(.bin .lss), [vf 5, vf 6], true⟩
    (.ite (vf 7)
     (.lett ⟨(.inb 8), [vs 0, vf 5], true⟩
     (.lett ⟨(.get [(8, 0)]), [vs 0, vf 5], true⟩
     (.lett ⟨(.get [(8, 1)]), [vs 0, vf 5], false⟩
     (.lett ⟨(.get [(8, 2)]), [vs 0, vf 5], true⟩
     (.lett ⟨(.get [(8, 3)]), [vs 0, vf 5], true⟩
     (.lett ⟨(.get [(8, 4)]), [vs 0, vf 5], true⟩
     (.lett ⟨(.get [(8, 5)]), [vs 0, vf 5], false⟩
     (.lett ⟨(.get [(8, 6)]), [vs 0, vf 5], false⟩
     (.lett ⟨(.get [(8, 7)]), [vs 0, vf 5], true⟩
     (.lett ⟨(.inb 8), [vs 1, vf 5], true⟩
     (.lett ⟨(.get [(8, 0)]), [vs 1, vf 5], true⟩
     (.lett ⟨(.get [(8, 1)]), [vs 1, vf 5], false⟩
     (.lett ⟨(.get [(8, 2)]), [vs 1, vf 5], true⟩
     (.lett ⟨(.get [(8, 3)]), [vs 1, vf 5], true⟩
     (.lett ⟨(.get [(8, 4)]), [vs 1, vf 5], true⟩
     (.lett ⟨(.get [(8, 5)]), [vs 1, vf 5], false⟩
     (.lett ⟨(.get [(8, 6)]), [vs 1, vf 5], false⟩
     (.lett ⟨(.get [(8, 7)]), [vs 1, vf 5], true⟩
     (.call 75 [[vf 9, vs 10, vf 11, vf 12, vf 13, vs 14, vs 15, vf 16], [vf 18, vs 19, vf 20, vf 21, vf 22, vs 23, vs 24, vf 25]] [[true]]
     (.lett ⟨(.un .not), [vf 26], true⟩
     (.ite (vf 27)
      (.ret [[.c (.bool false)]])
      (.lett ⟨(.bin .add), [vf 5, .c (I 1)], true⟩
      (.again 0 [vf 28])))))))))))))))))))))))
     (.ret [[.c (.bool true)]])))))))))
theorem c45 : compFn tab (hof [(20, [[true, false, true, true, true, false, false, true]]), (24, [[true, false, true, true, true, false, false, true]]), (25, [[true]])]) a_laws_eqEditS [[false], [false]] = some t45 := by kernel_rfl

/-- laws.szStringS -/
def t97 : Tr :=
  (.lett ⟨.len, [vs 0], true⟩
  (.lett ⟨(.bin .sub), [vf 1, vf 2], true⟩
  (.lett ⟨(.bin .lss), [vf 3, .c (I 0)], true⟩
  (.ite (vf 4)
   (.ret [[.c (I (-1))]])
   (.loop 0 [vf 3, .c (I 0)]
    (.lett ⟨.len, [vs 0], true⟩
    (.lett ⟨(.bin .lss), [vf 6, vf 7], true⟩
    (.ite (vf 8)
     (.lett ⟨(.inb 1), [vs 0, vf 6], true⟩
     (.lett ⟨(.get [(1, 0)]), [vs 0, vf 6], true⟩
     (.lett ⟨.lenS, [vf 10], true⟩
     (.lett ⟨(.bin .sub), [vf 5, vf 11], true⟩
     (.lett ⟨(.bin .lss), [vf 12, .c (I 0)], true⟩
     (.ite (vf 13)
      (.ret [[.c (I (-1))]])
      (.lett ⟨(.bin .add), [vf 6, .c (I 1)], true⟩
      (.again 0 [vf 12, vf 14]))))))))
     (.ret [[vf 5]])))))))))
theorem c97 : compFn tab (hof [(22, [[true]])]) a_laws_szStringS [[false], [true]] = some t97 := by kernel_rfl

/-- laws.szTypeS -/
def t184 : Tr :=
  (.lett ⟨.len, [vs 0], true⟩
  (.lett ⟨(.bin .sub), [vf 1, vf 2], true⟩
  (.lett ⟨(.bin .lss), [vf 3, .c (I 0)], true⟩
  (.ite (vf 4)
   (.ret [[.c (I (-1))]])
   (.loop 0 [vf 3, .c (I 0)]
    (.lett ⟨.len, [vs 0], true⟩
    (.lett ⟨(.bin .lss), [vf 6, vf 7], true⟩
    (.ite (vf 8)
     (.lett ⟨(.inb 3), [vs 0, vf 6], true⟩
     (.lett ⟨(.get [(3, 0)]), [vs 0, vf 6], true⟩
     (.lett ⟨(.get [(3, 1)]), [vs 0, vf 6], false⟩
     (.lett ⟨(.get [(3, 2)]), [vs 0, vf 6], false⟩
     (.call 157 [[vf 10, vs 11, vs 12], [vf 5]] [[true]]
     (.lett ⟨(.bin .lss), [vf 13, .c (I 0)], true⟩
     (.ite (vf 14)
      (.ret [[.c (I (-1))]])
      (.lett ⟨(.bin .add), [vf 6, .c (I 1)], true⟩
      (.again 0 [vf 13, vf 15])))))))))
     (.ret [[vf 5]])))))))))
theorem c184 : compFn tab (hof [(21, [[true, false, false]]), (23, [[true]])]) a_laws_szTypeS [[false], [true]] = some t184 := by kernel_rfl

/-- laws.szValueS -/
def t98 : Tr :=
  (.lett ⟨.len, [vs 0], true⟩
  (.lett ⟨(.bin .sub), [vf 1, vf 2], true⟩
  (.lett ⟨(.bin .lss), [vf 3, .c (I 0)], true⟩
  (.ite (vf 4)
   (.ret [[.c (I (-1))]])
   (.loop 0 [vf 3, .c (I 0)]
    (.lett ⟨.len, [vs 0], true⟩
    (.lett ⟨(.bin .lss), [vf 6, vf 7], true⟩
    (.ite (vf 8)
     (.lett ⟨(.inb 5), [vs 0, vf 6], true⟩
     (.lett ⟨(.get [(5, 0)]), [vs 0, vf 6], true⟩
     (.lett ⟨(.get [(5, 1)]), [vs 0, vf 6], true⟩
     (.lett ⟨(.get [(5, 2)]), [vs 0, vf 6], true⟩
     (.lett ⟨(.get [(5, 3)]), [vs 0, vf 6], false⟩
     (.lett ⟨(.get [(5, 4)]), [vs 0, vf 6], false⟩
     (.call 76 [[vf 10, vf 11, vf 12, vs 13, vs 14], [vf 5]] [[true]]
     (.lett ⟨(.bin .lss), [vf 15, .c (I 0)], true⟩
     (.ite (vf 16)
      (.ret [[.c (I (-1))]])
      (.lett ⟨(.bin .add), [vf 6, .c (I 1)], true⟩
      (.again 0 [vf 15, vf 17])))))))))))
     (.ret [[vf 5]])))))))))
theorem c98 : compFn tab (hof [(21, [[true, true, true, false, false]]), (23, [[true]])]) a_laws_szValueS [[false], [true]] = some t98 := by kernel_rfl

/-- laws.szEdit -/
def t71 : Tr :=
  (.call 11 [[vs 1], [vf 8]] [[true]]
  (.lett ⟨(.bin .lss), [vf 9, .c (I 0)], true⟩
  (.ite (vf 10)
   (.ret [[.c (I (-1))]])
   (.call 76 [[vf 2, vf 3, vf 4, vs 5, vs 6], [vf 9]] [[true]]
   (.lett ⟨(.bin .lss), [vf 11, .c (I 0)], true⟩
   (.ite (vf 12)
    (.ret [[.c (I (-1))]])
    (.ret [[vf 11]])))))))
theorem c71 : compFn tab (hof [(6, [[false]]), (8, [[true]]), (12, [[true, true, true, false, false]]), (14, [[true]])]) a_laws_szEdit [[true, false, true, true, true, false, false, true], [true]] = some t71 := by kernel_rfl

/-- laws.toStringS -/
def t100 : Tr :=
  (.lett ⟨.len, [vs 0], true⟩
  (.lett ⟨(.make 1 [(.str ⟨#[]⟩)]), [vf 1], false⟩
  (.loop 0 [vs 2, .c (I 0)]
   (.lett ⟨.len, [vs 0], true⟩
   (.lett ⟨(.bin .lss), [vf 4, vf 5], true⟩
   (.ite (vf 6)
    (.lett ⟨(.inb 1), [vs 0, vf 4], true⟩
    (.lett ⟨(.get [(1, 0)]), [vs 0, vf 4], true⟩
    (.lett ⟨(.inb 1), [vs 3, vf 4], true⟩
    (.lett ⟨(.set [(1, 0)]), [vs 3, vf 4, vf 8], false⟩
    (.lett ⟨(.bin .add), [vf 4, .c (I 1)], true⟩
    (.again 0 [vs 10, vf 11]))))))
    (.ret [[vs 3]])))))))
theorem c100 : compFn tab (hof [(19, [[true]])]) a_laws_toStringS [[false]] = some t100 := by kernel_rfl

/-- laws.toTypeS -/
def t188 : Tr :=
  (.lett ⟨.len, [vs 0], true⟩
  (.lett ⟨(.make 3 [(I 0), (Z 1), (Z 3)]), [vf 1], false⟩
  (.loop 0 [vs 2, .c (I 0)]
   (.lett ⟨.len, [vs 0], true⟩
   (.lett ⟨(.bin .lss), [vf 4, vf 5], true⟩
   (.ite (vf 6)
    (.lett ⟨(.inb 3), [vs 0, vf 4], true⟩
    (.lett ⟨(.get [(3, 0)]), [vs 0, vf 4], true⟩
    (.lett ⟨(.get [(3, 1)]), [vs 0, vf 4], false⟩
    (.lett ⟨(.get [(3, 2)]), [vs 0, vf 4], false⟩
    (.call 159 [[vf 8, vs 9, vs 10]] [[true, false, false]]
    (.lett ⟨(.inb 3), [vs 3, vf 4], true⟩
    (.lett ⟨(.set [(3, 0)]), [vs 3, vf 4, vf 11, vs 12, vs 13], false⟩
    (.lett ⟨(.bin .add), [vf 4, .c (I 1)], true⟩
    (.again 0 [vs 15, vf 16])))))))))
    (.ret [[vs 3]])))))))
theorem c188 : compFn tab (hof [(19, [[true, false, false]]), (20, [[true, false, false]])]) a_laws_toTypeS [[false]] = some t188 := by kernel_rfl

/-- laws.toValueS -/
def t101 : Tr :=
  (.lett ⟨.len, [vs 0], true⟩
  (.lett ⟨(.make 5 [(I 0), (I 0), (.str ⟨#[]⟩), (Z 1), (Z 5)]), [vf 1], false⟩
  (.loop 0 [vs 2, .c (I 0)]
   (.lett ⟨.len, [vs 0], true⟩
   (.lett ⟨(.bin .lss), [vf 4, vf 5], true⟩
   (.ite (vf 6)
    (.lett ⟨(.inb 5), [vs 0, vf 4], true⟩
    (.lett ⟨(.get [(5, 0)]), [vs 0, vf 4], true⟩
    (.lett ⟨(.get [(5, 1)]), [vs 0, vf 4], true⟩
    (.lett ⟨(.get [(5, 2)]), [vs 0, vf 4], true⟩
    (.lett ⟨(.get [(5, 3)]), [vs 0, vf 4], false⟩
    (.lett ⟨(.get [(5, 4)]), [vs 0, vf 4], false⟩
    (.call 78 [[vf 8, vf 9, vf 10, vs 11, vs 12]] [[true, true, true, false, false]]
    (.lett ⟨(.inb 5), [vs 3, vf 4], true⟩
    (.lett ⟨(.set [(5, 0)]), [vs 3, vf 4, vf 13, vf 14, vf 15, vs 16, vs 17], false⟩
    (.lett ⟨(.bin .add), [vf 4, .c (I 1)], true⟩
    (.again 0 [vs 19, vf 20])))))))))))
    (.ret [[vs 3]])))))))
theorem c101 : compFn tab (hof [(19, [[true, true, true, false, false]]), (20, [[true, true, true, false, false]])]) a_laws_toValueS [[false]] = some t101 := by kernel_rfl

/-- laws.toEdit -/
def t73 : Tr :=
  (.call 13 [[vs 1]] [[false]]
  (.call 78 [[vf 2, vf 3, vf 4, vs 5, vs 6]] [[true, true, true, false, false]]
  (.ret [[vf 0, vs 8, vf 9, vf 10, vf 11, vs 12, vs 13, vf 7]])))
theorem c73 : compFn tab (hof [(5, [[true]]), (8, [[false]]), (9, [[false]]), (12, [[true, true, true, false, false]]), (13, [[true, true, true, false, false]]), (16, [[true]]), (18, [[true, false, true, true, true, false, false, true]])]) a_laws_toEdit [[true, false, true, true, true, false, false, true]] = some t73 := by kernel_rfl

/-- spec.l3Texts -/
def t208 : Tr :=
  (.lett ⟨.len, [vs 0], true⟩
  (.lett ⟨.len, [vs 1], true⟩
  (.lett ⟨(.bin .neq), [vf 2, vf 3], true⟩
  (.ite (vf 4)
   (.ret [[.c (.bool false)]])
   (.loop 0 [.c (I 0)]
    (.lett ⟨.len, [vs 0], true⟩
    (.lett ⟨(.bin .lss), [vf 5, vf 6], true⟩
    (.ite (vf 7)
     (.lett ⟨(.inb 1), [vs 0, vf 5], true⟩
     (.lett ⟨(.get [(1, 0)]), [vs 0, vf 5], true⟩
     (.lett ⟨(.inb 1), [vs 1, vf 5], true⟩
     (.lett ⟨(.get [(1, 0)]), [vs 1, vf 5], true⟩
     (.lett ⟨(.bin .neq), [vf 9, vf 11], true⟩
     (.ite (vf 12)
      (.ret [[.c (.bool false)]])
      (.lett ⟨(.bin .add), [vf 5, .c (I 1)], true⟩
      (.again 0 [vf 13]))))))))
     (.ret [[.c (.bool true)]])))))))))
theorem c208 : compFn tab (hof [(20, [[true]]), (24, [[true]])]) a_spec_l3Texts [[false], [false]] = some t208 := by kernel_rfl

/-- spec.l19Same -/
def t209 : Tr :=
  (.lett ⟨(.bin .eql), [vf 0, vf 8], true⟩
  (.ite (vf 16)
   (.lett ⟨(.bin .eql), [vf 7, vf 15], true⟩
   (.ite (vf 17)
    (.lett ⟨.len, [vs 1], true⟩
    (.lett ⟨.len, [vs 9], true⟩
    (.lett ⟨(.bin .eql), [vf 18, vf 19], true⟩
    (.ite (vf 20)
     (.call 12 [[vs 1], [vs 9]] [[true]]
     (.ite (vf 21)
      (.call 175 [[vf 2, vf 3, vf 4, vs 5, vs 6], [vf 10, vf 11, vf 12, vs 13, vs 14]] [[true]]
      (.ret [[vf 22]]))
      (.ret [[.c (.bool false)]])))
     (.ret [[.c (.bool false)]])))))
    (.ret [[.c (.bool false)]])))
   (.ret [[.c (.bool false)]])))
theorem c209 : compFn tab (hof [(6, [[true]]), (8, [[true]]), (12, [[true]]), (14, [[true]]), (19, [[false]]), (22, [[false]]), (28, [[false]]), (30, [[false]]), (31, [[true]]), (35, [[true, true, true, false, false]]), (37, [[true, true, true, false, false]]), (38, [[true]])]) a_spec_l19Same [[true, false, true, true, true, false, false, true], [true, false, true, true, true, false, false, true]] = some t209 := by kernel_rfl

/-- impl.sameStrings -/
def t210 : Tr :=
  (.lett ⟨.len, [vs 0], true⟩
  (.lett ⟨.len, [vs 1], true⟩
  (.lett ⟨(.bin .neq), [vf 2, vf 3], true⟩
  (.ite (vf 4)
   (.ret [[.c (.bool false)]])
   (.lett ⟨.len, [vs 0], true⟩
   (.loop 0 [.c (I 0)]
    (.lett ⟨(.bin .lss), [vf 6, vf 5], true⟩
    (.ite (vf 7)
     (.lett ⟨(.inb 1), [vs 0, vf 6], true⟩
     (.lett ⟨(.get [(1, 0)]), [vs 0, vf 6], true⟩
     (.lett ⟨(.inb 1), [vs 1, vf 6], true⟩
     (.lett ⟨(.get [(1, 0)]), [vs 1, vf 6], true⟩
     (.lett ⟨(.bin .neq), [vf 9, vf 11], true⟩
     (.ite (vf 12)
      (.ret [[.c (.bool false)]])
      (.lett ⟨(.bin .add), [vf 6, .c (I 1)], true⟩
      (.again 0 [vf 13]))))))))
     (.ret [[.c (.bool true)]])))))))))
theorem c210 : compFn tab (hof [(19, [[true]]), (23, [[true]])]) a_impl_sameStrings [[false], [false]] = some t210 := by kernel_rfl

/-- impl.sameValues -/
def t211 : Tr :=
  (.lett ⟨.len, [vs 0], true⟩
  (.lett ⟨.len, [vs 1], true⟩
  (.lett ⟨(.bin .neq), [vf 2, vf 3], true⟩
  (.ite (vf 4)
   (.ret [[.c (.bool false)]])
   (.lett ⟨.len, [vs 0], true⟩
   (.loop 0 [.c (I 0)]
    (.lett ⟨(.bin .lss), [vf 6, vf 5], true⟩
    (.ite (vf 7)
     (.lett ⟨(.inb 5), [vs 0, vf 6], true⟩
     (.lett ⟨(.get [(5, 0)]), [vs 0, vf 6], true⟩
     (.lett ⟨(.get [(5, 1)]), [vs 0, vf 6], true⟩
     (.lett ⟨(.get [(5, 2)]), [vs 0, vf 6], true⟩
     (.lett ⟨(.get [(5, 3)]), [vs 0, vf 6], false⟩
     (.lett ⟨(.get [(5, 4)]), [vs 0, vf 6], false⟩
     (.lett ⟨(.inb 5), [vs 1, vf 6], true⟩
     (.lett ⟨(.get [(5, 0)]), [vs 1, vf 6], true⟩
     (.lett ⟨(.get [(5, 1)]), [vs 1, vf 6], true⟩
     (.lett ⟨(.get [(5, 2)]), [vs 1, vf 6], true⟩
     (.lett ⟨(.get [(5, 3)]), [vs 1, vf 6], false⟩
     (.lett ⟨(.get [(5, 4)]), [vs 1, vf 6], false⟩
     (.call 178 [[vf 9, vf 10, vf 11, vs 12, vs 13], [vf 15, vf 16, vf 17, vs 18, vs 19]] [[true]]
     (.lett ⟨(.un .not), [vf 20], true⟩
     (.ite (vf 21)
      (.ret [[.c (.bool false)]])
      (.lett ⟨(.bin .add), [vf 6, .c (I 1)], true⟩
      (.again 0 [vf 22])))))))))))))))))
     (.ret [[.c (.bool true)]])))))))))
theorem c211 : compFn tab (hof [(19, [[true, true, true, false, false]]), (23, [[true, true, true, false, false]]), (24, [[true]])]) a_impl_sameValues [[false], [false]] = some t211 := by kernel_rfl

/-- impl.IsPrefix -/
def t14 : Tr :=
  (.lett ⟨.len, [vs 0], true⟩
  (.lett ⟨.len, [vs 1], true⟩
  (.lett ⟨(.bin .gtr), [vf 2, vf 3], true⟩
  (.ite (vf 4)
   (.ret [[.c (.bool false)]])
   (.lett ⟨.len, [vs 0], true⟩
   (.loop 0 [.c (I 0)]
    (.lett ⟨(.bin .lss), [vf 6, vf 5], true⟩
    (.ite (vf 7)
     (.lett ⟨(.inb 3), [vs 0, vf 6], true⟩
     (.lett ⟨(.get [(3, 0)]), [vs 0, vf 6], true⟩
     (.lett ⟨(.get [(3, 1)]), [vs 0, vf 6], true⟩
     (.lett ⟨(.get [(3, 2)]), [vs 0, vf 6], true⟩
     (.lett ⟨(.inb 3), [vs 1, vf 6], true⟩
     (.lett ⟨(.get [(3, 0)]), [vs 1, vf 6], true⟩
     (.lett ⟨(.get [(3, 1)]), [vs 1, vf 6], true⟩
     (.lett ⟨(.get [(3, 2)]), [vs 1, vf 6], true⟩
     (.lett ⟨(.eqAgg true [0, 2, 0]), [vf 9, vf 10, vf 11, vf 13, vf 14, vf 15], true⟩
     (.ite (vf 16)
      (.ret [[.c (.bool false)]])
      (.lett ⟨(.bin .add), [vf 6, .c (I 1)], true⟩
      (.again 0 [vf 17]))))))))))))
     (.ret [[.c (.bool true)]])))))))))
theorem c14 : compFn tab (hof [(19, [[true, true, true]]), (23, [[true, true, true]])]) a_impl_IsPrefix [[false], [false]] = some t14 := by kernel_rfl

/-- laws.eqStringS -/
def t103 : Tr :=
  (.lett ⟨.len, [vs 0], true⟩
  (.lett ⟨.len, [vs 1], true⟩
  (.lett ⟨(.bin .neq), [vf 2, vf 3], true⟩
  (.ite (vf 4)
   (.ret [[.c (.bool false)]])
   (.loop 0 [.c (I 0)]
    (.lett ⟨.len, [vs 0], true⟩
    (.lett ⟨(.bin .lss), [vf 5, vf 6], true⟩
    (.ite (vf 7)
     (.lett ⟨(.inb 1), [vs 0, vf 5], true⟩
     (.lett ⟨(.get [(1, 0)]), [vs 0, vf 5], true⟩
     (.lett ⟨(.inb 1), [vs 1, vf 5], true⟩
     (.lett ⟨(.get [(1, 0)]), [vs 1, vf 5], true⟩
     (.lett ⟨(.bin .neq), [vf 9, vf 11], true⟩
     (.ite (vf 12)
      (.ret [[.c (.bool false)]])
      (.lett ⟨(.bin .add), [vf 5, .c (I 1)], true⟩
      (.again 0 [vf 13]))))))))
     (.ret [[.c (.bool true)]])))))))))
theorem c103 : compFn tab (hof [(20, [[true]]), (24, [[true]])]) a_laws_eqStringS [[false], [false]] = some t103 := by kernel_rfl

/-- laws.eqTypeS -/
def t192 : Tr :=
  (.lett ⟨.len, [vs 0], true⟩
  (.lett ⟨.len, [vs 1], true⟩
  (.lett ⟨(.bin .neq), [vf 2, vf 3], true⟩
  (.ite (vf 4)
   (.ret [[.c (.bool false)]])
   (.loop 0 [.c (I 0)]
    (.lett ⟨.len, [vs 0], true⟩
    (.lett ⟨(.bin .lss), [vf 5, vf 6], true⟩
    (.ite (vf 7)
     (.lett ⟨(.inb 3), [vs 0, vf 5], true⟩
     (.lett ⟨(.get [(3, 0)]), [vs 0, vf 5], true⟩
     (.lett ⟨(.get [(3, 1)]), [vs 0, vf 5], false⟩
     (.lett ⟨(.get [(3, 2)]), [vs 0, vf 5], false⟩
     (.lett ⟨(.inb 3), [vs 1, vf 5], true⟩
     (.lett ⟨(.get [(3, 0)]), [vs 1, vf 5], true⟩
     (.lett ⟨(.get [(3, 1)]), [vs 1, vf 5], false⟩
     (.lett ⟨(.get [(3, 2)]), [vs 1, vf 5], false⟩
     (.call 161 [[vf 9, vs 10, vs 11], [vf 13, vs 14, vs 15]] [[true]]
     (.lett ⟨(.un .not), [vf 16], true⟩
     (.ite (vf 17)
      (.ret [[.c (.bool false)]])
      (.lett ⟨(.bin .add), [vf 5, .c (I 1)], true⟩
      (.again 0 [vf 18])))))))))))))
     (.ret [[.c (.bool true)]])))))))))
theorem c192 : compFn tab (hof [(20, [[true, false, false]]), (24, [[true, false, false]]), (25, [[true]])]) a_laws_eqTypeS [[false], [false]] = some t192 := by kernel_rfl

/-- laws.eqValueS -/
def t104 : Tr :=
  (.lett ⟨.len, [vs 0], true⟩
  (.lett ⟨.len, [vs 1], true⟩
  (.lett ⟨(.bin .neq), [vf 2, vf 3], true⟩
  (.ite (vf 4)
   (.ret [[.c (.bool false)]])
   (.loop 0 [.c (I 0)]
    (.lett ⟨.len, [vs 0], true⟩
    (.lett ⟨(.bin .lss), [vf 5, vf 6], true⟩
    (.ite (vf 7)
     (.lett ⟨(.inb 5), [vs 0, vf 5], true⟩
     (.lett ⟨(.get [(5, 0)]), [vs 0, vf 5], true⟩
     (.lett ⟨(.get [(5, 1)]), [vs 0, vf 5], true⟩
     (.lett ⟨(.get [(5, 2)]), [vs 0, vf 5], true⟩
     (.lett ⟨(.get [(5, 3)]), [vs 0, vf 5], false⟩
     (.lett ⟨(.get [(5, 4)]), [vs 0, vf 5], false⟩
     (.lett ⟨(.inb 5), [vs 1, vf 5], true⟩
     (.lett ⟨(.get [(5, 0)]), [vs 1, vf 5], true⟩
     (.lett ⟨(.get [(5, 1)]), [vs 1, vf 5], true⟩
     (.lett ⟨(.get [(5, 2)]), [vs 1, vf 5], true⟩
     (.lett ⟨(.get [(5, 3)]), [vs 1, vf 5], false⟩
     (.lett ⟨(.get [(5, 4)]), [vs 1, vf 5], false⟩
     (.call 81 [[vf 9, vf 10, vf 11, vs 12, vs 13], [vf 15, vf 16, vf 17, vs 18, vs 19]] [[true]]
     (.lett ⟨(.un .not), [vf 20], true⟩
     (.ite (vf 21)
      (.ret [[.c (.bool false)]])
      (.lett ⟨(.bin .add), [vf 5, .c (I 1)], true⟩
      (.again 0 [vf 22])))))))))))))))))
     (.ret [[.c (.bool true)]])))))))))
theorem c104 : compFn tab (hof [(20, [[true, true, true, false, false]]), (24, [[true, true, true, false, false]]), (25, [[true]])]) a_laws_eqValueS [[false], [false]] = some t104 := by kernel_rfl

/-- laws.eqEdit -/
def t75 : Tr :=
  (.lett ⟨(.bin .neq), [vf 0, vf 8], true⟩
  (.ite (vf 16)
   (.ret [[.c (.bool false)]])
   (.call 15 [[vs 1], [vs 9]] [[true]]
   (.lett ⟨(.un .not), [vf 17], true⟩
   (.ite (vf 18)
    (.ret [[.c (.bool false)]])
    (.call 81 [[vf 2, vf 3, vf 4, vs 5, vs 6], [vf 10, vf 11, vf 12, vs 13, vs 14]] [[true]]
    (.lett ⟨(.un .not), [vf 19], true⟩
    (.ite (vf 20)
     (.ret [[.c (.bool false)]])
     (.lett ⟨(.bin .neq), [vf 7, vf 15], true⟩
     (.ite (vf 21)
      (.ret [[.c (.bool false)]])
      (.ret [[.c (.bool true)]])))))))))))
theorem c75 : compFn tab (hof [(6, [[true]]), (8, [[true]]), (11, [[false]]), (13, [[false]]), (14, [[true]]), (17, [[true, true, true, false, false]]), (19, [[true, true, true, false, false]]), (20, [[true]]), (23, [[true]]), (25, [[true]])]) a_laws_eqEdit [[true, false, true, true, true, false, false, true], [true, false, true, true, true, false, false, true]] = some t75 := by kernel_rfl

/-- laws.szStepS -/
def t11 : Tr :=
  (.lett ⟨.len, [vs 0], true⟩
  (.lett ⟨(.bin .sub), [vf 1, vf 2], true⟩
  (.lett ⟨(.bin .lss), [vf 3, .c (I 0)], true⟩
  (.ite (vf 4)
   (.ret [[.c (I (-1))]])
   (.loop 0 [vf 3, .c (I 0)]
    (.lett ⟨.len, [vs 0], true⟩
    (.lett ⟨(.bin .lss), [vf 6, vf 7], true⟩
    (.ite (vf 8)
     (.lett ⟨(.inb 3), [vs 0, vf 6], true⟩
     (.lett ⟨(.get [(3, 0)]), [vs 0, vf 6], true⟩
     (.lett ⟨(.get [(3, 1)]), [vs 0, vf 6], true⟩
     (.lett ⟨(.get [(3, 2)]), [vs 0, vf 6], true⟩
     (.call 59 [[vf 10, vf 11, vf 12], [vf 5]] [[true]]
     (.lett ⟨(.bin .lss), [vf 13, .c (I 0)], true⟩
     (.ite (vf 14)
      (.ret [[.c (I (-1))]])
      (.lett ⟨(.bin .add), [vf 6, .c (I 1)], true⟩
      (.again 0 [vf 13, vf 15])))))))))
     (.ret [[vf 5]])))))))))
theorem c11 : compFn tab (hof [(21, [[true, true, true]]), (23, [[true]])]) a_laws_szStepS [[false], [true]] = some t11 := by kernel_rfl

/-- laws.toStepS -/
def t13 : Tr :=
  (.lett ⟨.len, [vs 0], true⟩
  (.lett ⟨(.make 3 [(I 0), (.str ⟨#[]⟩), (I 0)]), [vf 1], false⟩
  (.loop 0 [vs 2, .c (I 0)]
   (.lett ⟨.len, [vs 0], true⟩
   (.lett ⟨(.bin .lss), [vf 4, vf 5], true⟩
   (.ite (vf 6)
    (.lett ⟨(.inb 3), [vs 0, vf 4], true⟩
    (.lett ⟨(.get [(3, 0)]), [vs 0, vf 4], true⟩
    (.lett ⟨(.get [(3, 1)]), [vs 0, vf 4], true⟩
    (.lett ⟨(.get [(3, 2)]), [vs 0, vf 4], true⟩
    (.call 60 [[vf 8, vf 9, vf 10]] [[true, true, true]]
    (.lett ⟨(.inb 3), [vs 3, vf 4], true⟩
    (.lett ⟨(.set [(3, 0)]), [vs 3, vf 4, vf 11, vf 12, vf 13], false⟩
    (.lett ⟨(.bin .add), [vf 4, .c (I 1)], true⟩
    (.again 0 [vs 15, vf 16])))))))))
    (.ret [[vs 3]])))))))
theorem c13 : compFn tab (hof [(19, [[true, true, true]]), (20, [[true, true, true]])]) a_laws_toStepS [[false]] = some t13 := by kernel_rfl

/-- spec.IsPrefix -/
def t12 : Tr :=
  (.lett ⟨.len, [vs 0], true⟩
  (.lett ⟨.len, [vs 1], true⟩
  (.lett ⟨(.bin .gtr), [vf 2, vf 3], true⟩
  (.ite (vf 4)
   (.ret [[.c (.bool false)]])
   (.loop 0 [.c (I 0)]
    (.lett ⟨.len, [vs 0], true⟩
    (.lett ⟨(.bin .lss), [vf 5, vf 6], true⟩
    (.ite (vf 7)
     (.lett ⟨(.inb 3), [vs 0, vf 5], true⟩
     (.lett ⟨(.get [(3, 0)]), [vs 0, vf 5], true⟩
     (.lett ⟨(.get [(3, 1)]), [vs 0, vf 5], true⟩
     (.lett ⟨(.get [(3, 2)]), [vs 0, vf 5], true⟩
     (.lett ⟨(.inb 3), [vs 1, vf 5], true⟩
     (.lett ⟨(.get [(3, 0)]), [vs 1, vf 5], true⟩
     (.lett ⟨(.get [(3, 1)]), [vs 1, vf 5], true⟩
     (.lett ⟨(.get [(3, 2)]), [vs 1, vf 5], true⟩
     (.lett ⟨(.eqAgg true [0, 2, 0]), [vf 9, vf 10, vf 11, vf 13, vf 14, vf 15], true⟩
     (.ite (vf 16)
      (.ret [[.c (.bool false)]])
      (.lett ⟨(.bin .add), [vf 5, .c (I 1)], true⟩
      (.again 0 [vf 17]))))))))))))
     (.ret [[.c (.bool true)]])))))))))
theorem c12 : compFn tab (hof [(20, [[true, true, true]]), (24, [[true, true, true]])]) a_spec_IsPrefix [[false], [false]] = some t12 := by kernel_rfl

/-- laws.eqStepS -/
def t15 : Tr :=
  (.lett ⟨.len, [vs 0], true⟩
  (.lett ⟨.len, [vs 1], true⟩
  (.lett ⟨(.bin .neq), [vf 2, vf 3], true⟩
  (.ite (vf 4)
   (.ret [[.c (.bool false)]])
   (.loop 0 [.c (I 0)]
    (.lett ⟨.len, [vs 0], true⟩
    (.lett ⟨(.bin .lss), [vf 5, vf 6], true⟩
    (.ite (vf 7)
     (.lett ⟨(.inb 3), [vs 0, vf 5], true⟩
     (.lett ⟨(.get [(3, 0)]), [vs 0, vf 5], true⟩
     (.lett ⟨(.get [(3, 1)]), [vs 0, vf 5], true⟩
     (.lett ⟨(.get [(3, 2)]), [vs 0, vf 5], true⟩
     (.lett ⟨(.inb 3), [vs 1, vf 5], true⟩
     (.lett ⟨(.get [(3, 0)]), [vs 1, vf 5], true⟩
     (.lett ⟨(.get [(3, 1)]), [vs 1, vf 5], true⟩
     (.lett ⟨(.get [(3, 2)]), [vs 1, vf 5], true⟩
     (.call 61 [[vf 9, vf 10, vf 11], [vf 13, vf 14, vf 15]] [[true]]
     (.lett ⟨(.un .not), [vf 16], true⟩
     (.ite (vf 17)
      (.ret [[.c (.bool false)]])
      (.lett ⟨(.bin .add), [vf 5, .c (I 1)], true⟩
      (.again 0 [vf 18])))))))))))))
     (.ret [[.c (.bool true)]])))))))))
theorem c15 : compFn tab (hof [(20, [[true, true, true]]), (24, [[true, true, true]]), (25, [[true]])]) a_laws_eqStepS [[false], [false]] = some t15 := by kernel_rfl

/-- laws.szStep -/
def t59 : Tr :=
  (.lett ⟨.lenS, [vf 1], true⟩
  (.lett ⟨(.bin .sub), [vf 3, vf 4], true⟩
  (.lett ⟨(.bin .lss), [vf 5, .c (I 0)], true⟩
  (.ite (vf 6)
   (.ret [[.c (I (-1))]])
   (.ret [[vf 5]])))))
theorem c59 : compFn tab (hof [(7, [[true]])]) a_laws_szStep [[true, true, true], [true]] = some t59 := by kernel_rfl

/-- laws.toStep -/
def t60 : Tr :=
  (.ret [[vf 0, vf 1, vf 2]])
theorem c60 : compFn tab (hof [(5, [[true]]), (8, [[true]]), (11, [[true]]), (13, [[true, true, true]])]) a_laws_toStep [[true, true, true]] = some t60 := by kernel_rfl

/-- laws.eqStep -/
def t61 : Tr :=
  (.lett ⟨(.bin .neq), [vf 0, vf 3], true⟩
  (.ite (vf 6)
   (.ret [[.c (.bool false)]])
   (.lett ⟨(.bin .neq), [vf 1, vf 4], true⟩
   (.ite (vf 7)
    (.ret [[.c (.bool false)]])
    (.lett ⟨(.bin .neq), [vf 2, vf 5], true⟩
    (.ite (vf 8)
     (.ret [[.c (.bool false)]])
     (.ret [[.c (.bool true)]])))))))
theorem c61 : compFn tab (hof [(6, [[true]]), (8, [[true]]), (11, [[true]]), (13, [[true]]), (16, [[true]]), (18, [[true]])]) a_laws_eqStep [[true, true, true], [true, true, true]] = some t61 := by kernel_rfl

end Go.Proofs.Ytkiliooegoldoaa
