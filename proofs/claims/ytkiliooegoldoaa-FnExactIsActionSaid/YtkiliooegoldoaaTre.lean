/- The functions of the claim, as decision trees. -/
import Derived.Test.YtkiliooegoldoaaTab
import Derived.Test.YtkiliooegoldoaaE6
set_option maxRecDepth 100000
namespace Go.Proofs.Ytkiliooegoldoaa
open Go

/-- laws.FnExactIsAction -/
def t144 : Tr :=
  (.call 157 [[vf 0, vs 1, vs 2], [.c (I 1048576)]] [[true]]
  (.lett ⟨(.bin .lss), [vf 10, .c (I 0)], true⟩
  (.ite (vf 11)
   (.ret [[.c (.bool true)]])
   (.call 46 [[vf 3, vf 4, vf 5, vf 6, vf 7, vs 8, vs 9], [vf 10]] [[true]]
   (.lett ⟨(.bin .lss), [vf 12, .c (I 0)], true⟩
   (.ite (vf 13)
    (.ret [[.c (.bool true)]])
    (.call 159 [[vf 0, vs 1, vs 2]] [[true, false, false]]
    (.call 48 [[vf 3, vf 4, vf 5, vf 6, vf 7, vs 8, vs 9]] [[true, true, true, true, true, false, false]]
    (.call 170 [[vf 14, vs 15, vs 16], [vf 17, vf 18, vf 19, vf 20, vf 21, vs 22, vs 23]] [[true]]
    (.call 159 [[vf 0, vs 1, vs 2]] [[true, false, false]]
    (.call 48 [[vf 3, vf 4, vf 5, vf 6, vf 7, vs 8, vs 9]] [[true, true, true, true, true, false, false]]
    (.call 171 [[vf 25, vs 26, vs 27], [vf 28, vf 29, vf 30, vf 31, vf 32, vs 33, vs 34]] [[true]]
    (.lett ⟨(.eqB true), [vf 35, vf 24], true⟩
    (.ite (vf 36)
     (.ret [[.c (.bool false)]])
     (.call 159 [[vf 0, vs 1, vs 2]] [[true, false, false]]
     (.call 161 [[vf 25, vs 26, vs 27], [vf 37, vs 38, vs 39]] [[true]]
     (.lett ⟨(.un .not), [vf 40], true⟩
     (.ite (vf 41)
      (.ret [[.c (.bool false)]])
      (.call 48 [[vf 3, vf 4, vf 5, vf 6, vf 7, vs 8, vs 9]] [[true, true, true, true, true, false, false]]
      (.call 50 [[vf 28, vf 29, vf 30, vf 31, vf 32, vs 33, vs 34], [vf 42, vf 43, vf 44, vf 45, vf 46, vs 47, vs 48]] [[true]]
      (.lett ⟨(.un .not), [vf 49], true⟩
      (.ite (vf 50)
       (.ret [[.c (.bool false)]])
       (.ret [[.c (.bool true)]])))))))))))))))))))))))
theorem c144 : compFn tab (hof [(10, [[true, false, false]]), (12, [[true]]), (15, [[true, true, true, true, true, false, false]]), (17, [[true]]), (20, [[true, false, false]]), (21, [[true, false, false]]), (22, [[true, true, true, true, true, false, false]]), (23, [[true, true, true, true, true, false, false]]), (24, [[true]]), (25, [[true, false, false]]), (26, [[true, false, false]]), (27, [[true, true, true, true, true, false, false]]), (28, [[true, true, true, true, true, false, false]]), (29, [[true, false, false]]), (30, [[true, true, true, true, true, false, false]]), (31, [[true]]), (35, [[true, false, false]]), (36, [[true, false, false]]), (37, [[true, false, false]]), (38, [[true]]), (40, [[true, true, true, true, true, false, false]]), (41, [[true, true, true, true, true, false, false]]), (42, [[true, true, true, true, true, false, false]]), (43, [[true]])]) a_laws_FnExactIsAction [[true, false, false], [true, true, true, true, true, false, false]] = some t144 := by kernel_rfl

/-- laws.szType -/
def t157 : Tr :=
  (.call 97 [[vs 1], [vf 3]] [[true]]
  (.lett ⟨(.bin .lss), [vf 4, .c (I 0)], true⟩
  (.ite (vf 5)
   (.ret [[.c (I (-1))]])
   (.call 184 [[vs 2], [vf 4]] [[true]]
   (.lett ⟨(.bin .lss), [vf 6, .c (I 0)], true⟩
   (.ite (vf 7)
    (.ret [[.c (I (-1))]])
    (.ret [[vf 6]])))))))
theorem c157 : compFn tab (hof [(6, [[false]]), (8, [[true]]), (12, [[false]]), (14, [[true]])]) a_laws_szType [[true, false, false], [true]] = some t157 := by kernel_rfl

/-- laws.szAction -/
def t46 : Tr :=
  (.call 76 [[vf 2, vf 3, vf 4, vs 5, vs 6], [vf 7]] [[true]]
  (.lett ⟨(.bin .lss), [vf 8, .c (I 0)], true⟩
  (.ite (vf 9)
   (.ret [[.c (I (-1))]])
   (.ret [[vf 8]]))))
theorem c46 : compFn tab (hof [(6, [[true, true, true, false, false]]), (8, [[true]])]) a_laws_szAction [[true, true, true, true, true, false, false], [true]] = some t46 := by kernel_rfl

/-- laws.toType -/
def t159 : Tr :=
  (.call 100 [[vs 1]] [[false]]
  (.call 188 [[vs 2]] [[false]]
  (.ret [[vf 0, vs 3, vs 4]])))
theorem c159 : compFn tab (hof [(5, [[true]]), (8, [[false]]), (9, [[false]]), (12, [[false]]), (13, [[false]]), (15, [[true, false, false]])]) a_laws_toType [[true, false, false]] = some t159 := by kernel_rfl

/-- laws.toAction -/
def t48 : Tr :=
  (.call 78 [[vf 2, vf 3, vf 4, vs 5, vs 6]] [[true, true, true, false, false]]
  (.ret [[vf 0, vf 1, vf 7, vf 8, vf 9, vs 10, vs 11]]))
theorem c48 : compFn tab (hof [(5, [[true]]), (8, [[true]]), (11, [[true, true, true, false, false]]), (12, [[true, true, true, false, false]]), (14, [[true, true, true, true, true, false, false]])]) a_laws_toAction [[true, true, true, true, true, false, false]] = some t48 := by kernel_rfl

/-- spec.IsAction -/
def t170 : Tr :=
  (.join 0 []
   (.call 185 [[vf 0, vs 1, vs 2]] [[true]]
   (.lett ⟨(.un .not), [vf 10], true⟩
   (.ite (vf 11)
    (.ret [[.c (.bool false)]])
    (.lett ⟨(.bin .neq), [vf 3, .c (I 2)], true⟩
    (.ite (vf 12)
     (.call 202 [[vf 5, vf 6, vf 7, vs 8, vs 9]] [[true]]
     (.lett ⟨(.un .not), [vf 13], true⟩
     (.ite (vf 14)
      (.ret [[.c (.bool false)]])
      (.lett ⟨(.bin .neq), [vf 3, .c (I 3)], true⟩
      (.ite (vf 15)
       (.lett ⟨(.bin .neq), [vf 4, .c (I 0)], true⟩
       (.ite (vf 16)
        (.ret [[.c (.bool false)]])
        (.again 0 [])))
       (.again 0 []))))))
     (.lett ⟨(.bin .neq), [vf 3, .c (I 3)], true⟩
     (.ite (vf 13)
      (.lett ⟨(.bin .neq), [vf 4, .c (I 0)], true⟩
      (.ite (vf 14)
       (.ret [[.c (.bool false)]])
       (.again 0 [])))
      (.again 0 []))))))))
   (.lett ⟨(.bin .eql), [vf 3, .c (I 1)], true⟩
   (.ite (vf 10)
    (.ret [[.c (.bool true)]])
    (.lett ⟨(.bin .eql), [vf 3, .c (I 2)], true⟩
    (.ite (vf 11)
     (.call 203 [[vf 5, vf 6, vf 7, vs 8, vs 9], [vf 0, vs 1, vs 2]] [[true]]
     (.ret [[vf 12]]))
     (.lett ⟨(.bin .eql), [vf 3, .c (I 3)], true⟩
     (.ite (vf 12)
      (.lett ⟨(.bin .eql), [vf 0, .c (I 1)], true⟩
      (.ite (vf 13)
       (.call 63 [[vf 4], [.c (I (-1000))], [.c (I 1000)]] [[true]]
       (.ret [[vf 14]]))
       (.ret [[.c (.bool false)]])))
      (.lett ⟨(.bin .eql), [vf 3, .c (I 4)], true⟩
      (.ite (vf 13)
       (.lett ⟨(.bin .eql), [vf 0, .c (I 2)], true⟩
       (.ret [[vf 14]]))
       (.ret [[.c (.bool false)]]))))))))))
theorem c170 : compFn tab (hof [(5, [[true, false, false]]), (6, [[true]]), (10, [[true]]), (14, [[true, true, true, false, false]]), (15, [[true]]), (21, [[true]]), (25, [[true]]), (30, [[true]]), (36, [[true, true, true, false, false]]), (37, [[true, false, false]]), (38, [[true]]), (42, [[true]]), (46, [[true]]), (47, [[true]]), (52, [[true]])]) a_spec_IsAction [[true, false, false], [true, true, true, true, true, false, false]] = some t170 := by kernel_rfl

/-- impl.IsAction -/
def t171 : Tr :=
  (.call 189 [[vf 0, vs 1, vs 2]] [[true]]
  (.lett ⟨(.un .not), [vf 10], true⟩
  (.ite (vf 11)
   (.ret [[.c (.bool false)]])
   (.lett ⟨(.bin .eql), [vf 3, .c (I 1)], true⟩
   (.ite (vf 12)
    (.lett ⟨(.bin .eql), [vf 4, .c (I 0)], true⟩
    (.ite (vf 13)
     (.call 204 [[vf 5, vf 6, vf 7, vs 8, vs 9]] [[true]]
     (.ret [[vf 14]]))
     (.ret [[.c (.bool false)]])))
    (.lett ⟨(.bin .eql), [vf 3, .c (I 2)], true⟩
    (.ite (vf 13)
     (.lett ⟨(.bin .eql), [vf 4, .c (I 0)], true⟩
     (.ite (vf 14)
      (.call 205 [[vf 5, vf 6, vf 7, vs 8, vs 9], [vf 0, vs 1, vs 2]] [[true]]
      (.ret [[vf 15]]))
      (.ret [[.c (.bool false)]])))
     (.lett ⟨(.bin .eql), [vf 3, .c (I 3)], true⟩
     (.ite (vf 14)
      (.lett ⟨(.bin .eql), [vf 0, .c (I 1)], true⟩
      (.ite (vf 15)
       (.call 80 [[vf 4]] [[true]]
       (.ite (vf 16)
        (.call 204 [[vf 5, vf 6, vf 7, vs 8, vs 9]] [[true]]
        (.ret [[vf 17]]))
        (.ret [[.c (.bool false)]])))
       (.ret [[.c (.bool false)]])))
      (.lett ⟨(.bin .eql), [vf 3, .c (I 4)], true⟩
      (.ite (vf 15)
       (.lett ⟨(.bin .eql), [vf 0, .c (I 2)], true⟩
       (.ite (vf 16)
        (.lett ⟨(.bin .eql), [vf 4, .c (I 0)], true⟩
        (.ite (vf 17)
         (.call 204 [[vf 5, vf 6, vf 7, vs 8, vs 9]] [[true]]
         (.ret [[vf 18]]))
         (.ret [[.c (.bool false)]])))
        (.ret [[.c (.bool false)]])))
       (.ret [[.c (.bool false)]]))))))))))))
theorem c171 : compFn tab (hof [(5, [[true, false, false]]), (6, [[true]]), (9, [[true]]), (13, [[true]]), (17, [[true, true, true, false, false]]), (18, [[true]]), (23, [[true]]), (27, [[true, true, true, false, false]]), (28, [[true, false, false]]), (29, [[true]]), (34, [[true]]), (38, [[true]]), (39, [[true]]), (43, [[true, true, true, false, false]]), (44, [[true]]), (49, [[true]]), (53, [[true]]), (58, [[true, true, true, false, false]]), (59, [[true]])]) a_impl_IsAction [[true, false, false], [true, true, true, true, true, false, false]] = some t171 := by kernel_rfl

/-- laws.eqType -/
def t161 : Tr :=
  (.lett ⟨(.bin .neq), [vf 0, vf 3], true⟩
  (.ite (vf 6)
   (.ret [[.c (.bool false)]])
   (.call 103 [[vs 1], [vs 4]] [[true]]
   (.lett ⟨(.un .not), [vf 7], true⟩
   (.ite (vf 8)
    (.ret [[.c (.bool false)]])
    (.call 192 [[vs 2], [vs 5]] [[true]]
    (.lett ⟨(.un .not), [vf 9], true⟩
    (.ite (vf 10)
     (.ret [[.c (.bool false)]])
     (.ret [[.c (.bool true)]])))))))))
theorem c161 : compFn tab (hof [(6, [[true]]), (8, [[true]]), (11, [[false]]), (13, [[false]]), (14, [[true]]), (17, [[false]]), (19, [[false]]), (20, [[true]])]) a_laws_eqType [[true, false, false], [true, false, false]] = some t161 := by kernel_rfl

/-- laws.eqAction -/
def t50 : Tr :=
  (.lett ⟨(.bin .neq), [vf 0, vf 7], true⟩
  (.ite (vf 14)
   (.ret [[.c (.bool false)]])
   (.lett ⟨(.bin .neq), [vf 1, vf 8], true⟩
   (.ite (vf 15)
    (.ret [[.c (.bool false)]])
    (.call 81 [[vf 2, vf 3, vf 4, vs 5, vs 6], [vf 9, vf 10, vf 11, vs 12, vs 13]] [[true]]
    (.lett ⟨(.un .not), [vf 16], true⟩
    (.ite (vf 17)
     (.ret [[.c (.bool false)]])
     (.ret [[.c (.bool true)]]))))))))
theorem c50 : compFn tab (hof [(6, [[true]]), (8, [[true]]), (11, [[true]]), (13, [[true]]), (16, [[true, true, true, false, false]]), (18, [[true, true, true, false, false]]), (19, [[true]])]) a_laws_eqAction [[true, true, true, true, true, false, false], [true, true, true, true, true, false, false]] = some t50 := by kernel_rfl

/-- laws.szStringS -/
def t97 : Tr :=
  (.lett ⟨.len, [vs 0], true⟩
  (.lett ⟨(.bin .sub), [vf 1, vf 2], true⟩
  (.lett ⟨(.bin .lss), [vf 3, .c (I 0)], true⟩
  (.ite (vf 4)
   (.ret [[.c (I (-1))]])
   (.loop 0 [vf 3, .c (I 0)]
    (.lett ⟨.len, [vs 0], true⟩
    (.lett ⟨(.bin .lss), [vf 6, vf 7], true⟩
    (.ite (vf 8)
     (.lett ⟨(.inb 1), [vs 0, vf 6], true⟩
     (.lett ⟨(.get [(1, 0)]), [vs 0, vf 6], true⟩
     (.lett ⟨.lenS, [vf 10], true⟩
     (.lett ⟨(.bin .sub), [vf 5, vf 11], true⟩
     (.lett ⟨(.bin .lss), [vf 12, .c (I 0)], true⟩
     (.ite (vf 13)
      (.ret [[.c (I (-1))]])
      (.lett ⟨(.bin .add), [vf 6, .c (I 1)], true⟩
      (.again 0 [vf 12, vf 14]))))))))
     (.ret [[vf 5]])))))))))
theorem c97 : compFn tab (hof [(22, [[true]])]) a_laws_szStringS [[false], [true]] = some t97 := by kernel_rfl

/-- laws.szTypeS -/
def t184 : Tr :=
  (.lett ⟨.len, [vs 0], true⟩
  (.lett ⟨(.bin .sub), [vf 1, vf 2], true⟩
  (.lett ⟨(.bin .lss), [vf 3, .c (I 0)], true⟩
  (.ite (vf 4)
   (.ret [[.c (I (-1))]])
   (.loop 0 [vf 3, .c (I 0)]
    (.lett ⟨.len, [vs 0], true⟩
    (.lett ⟨(.bin .lss), [vf 6, vf 7], true⟩
    (.ite (vf 8)
     (.lett ⟨(.inb 3), [vs 0, vf 6], true⟩
     (.lett ⟨(.get [(3, 0)]), [vs 0, vf 6], true⟩
     (.lett ⟨(.get [(3, 1)]), [vs 0, vf 6], false⟩
     (.lett ⟨(.get [(3, 2)]), [vs 0, vf 6], false⟩
     (.call 157 [[vf 10, vs 11, vs 12], [vf 5]] [[true]]
     (.lett ⟨(.bin .lss), [vf 13, .c (I 0)], true⟩
     (.ite (vf 14)
      (.ret [[.c (I (-1))]])
      (.lett ⟨(.bin .add), [vf 6, .c (I 1)], true⟩
      (.again 0 [vf 13, vf 15])))))))))
     (.ret [[vf 5]])))))))))
theorem c184 : compFn tab (hof [(21, [[true, false, false]]), (23, [[true]])]) a_laws_szTypeS [[false], [true]] = some t184 := by kernel_rfl

/-- laws.szValue -/
def t76 : Tr :=
  (.lett ⟨.lenS, [vf 2], true⟩
  (.lett ⟨(.bin .sub), [vf 5, vf 6], true⟩
  (.lett ⟨(.bin .lss), [vf 7, .c (I 0)], true⟩
  (.ite (vf 8)
   (.ret [[.c (I (-1))]])
   (.call 97 [[vs 3], [vf 7]] [[true]]
   (.lett ⟨(.bin .lss), [vf 9, .c (I 0)], true⟩
   (.ite (vf 10)
    (.ret [[.c (I (-1))]])
    (.call 98 [[vs 4], [vf 9]] [[true]]
    (.lett ⟨(.bin .lss), [vf 11, .c (I 0)], true⟩
    (.ite (vf 12)
     (.ret [[.c (I (-1))]])
     (.ret [[vf 11]])))))))))))
theorem c76 : compFn tab (hof [(7, [[true]]), (13, [[false]]), (15, [[true]]), (19, [[false]]), (21, [[true]])]) a_laws_szValue [[true, true, true, false, false], [true]] = some t76 := by kernel_rfl

/-- laws.toStringS -/
def t100 : Tr :=
  (.lett ⟨.len, [vs 0], true⟩
  (.lett ⟨(.make 1 [(.str ⟨#[]⟩)]), [vf 1], false⟩
  (.loop 0 [vs 2, .c (I 0)]
   (.lett ⟨.len, [vs 0], true⟩
   (.lett ⟨(.bin .lss), [vf 4, vf 5], true⟩
   (.ite (vf 6)
    (.lett ⟨(.inb 1), [vs 0, vf 4], true⟩
    (.lett ⟨(.get [(1, 0)]), [vs 0, vf 4], true⟩
    (.lett ⟨(.inb 1), [vs 3, vf 4], true⟩
    (.lett ⟨(.set [(1, 0)]), [vs 3, vf 4, vf 8], false⟩
    (.lett ⟨(.bin .add), [vf 4, .c (I 1)], true⟩
    (.again 0 [vs 10, vf 11]))))))
    (.ret [[vs 3]])))))))
theorem c100 : compFn tab (hof [(19, [[true]])]) a_laws_toStringS [[false]] = some t100 := by kernel_rfl

/-- laws.toTypeS -/
def t188 : Tr :=
  (.lett ⟨.len, [vs 0], true⟩
  (.lett ⟨(.make 3 [(I 0), (Z 1), (Z 3)]), [vf 1], false⟩
  (.loop 0 [vs 2, .c (I 0)]
   (.lett ⟨.len, [vs 0], true⟩
   (.lett ⟨(.bin .lss), [vf 4, vf 5], true⟩
   (.ite (vf 6)
    (.lett ⟨(.inb 3), [vs 0, vf 4], true⟩
    (.lett ⟨(.get [(3, 0)]), [vs 0, vf 4], true⟩
    (.lett ⟨(.get [(3, 1)]), [vs 0, vf 4], false⟩
    (.lett ⟨(.get [(3, 2)]), [vs 0, vf 4], false⟩
    (.call 159 [[vf 8, vs 9, vs 10]] [[true, false, false]]
    (.lett ⟨(.inb 3), [vs 3, vf 4], true⟩
    (.lett ⟨(.set [(3, 0)]), [vs 3, vf 4, vf 11, vs 12, vs 13], false⟩
    (.lett ⟨(.bin .add), [vf 4, .c (I 1)], true⟩
    (.again 0 [vs 15, vf 16])))))))))
    (.ret [[vs 3]])))))))
theorem c188 : compFn tab (hof [(19, [[true, false, false]]), (20, [[true, false, false]])]) a_laws_toTypeS [[false]] = some t188 := by kernel_rfl

/-- laws.toValue -/
def t78 : Tr :=
  (.call 100 [[vs 3]] [[false]]
  (.call 101 [[vs 4]] [[false]]
  (.ret [[vf 0, vf 1, vf 2, vs 5, vs 6]])))
theorem c78 : compFn tab (hof [(5, [[true]]), (8, [[true]]), (11, [[true]]), (14, [[false]]), (15, [[false]]), (18, [[false]]), (19, [[false]]), (21, [[true, true, true, false, false]])]) a_laws_toValue [[true, true, true, false, false]] = some t78 := by kernel_rfl

/-- spec.IsValidType -/
def t185 : Tr :=
  (.call 219 [[vf 0, vs 1, vs 2], [.c (I 30)]] [[true]]
  (.lett ⟨(.bin .geq), [vf 3, .c (I 0)], true⟩
  (.ite (vf 4)
   (.call 220 [[vf 0, vs 1, vs 2]] [[true]]
   (.lett ⟨(.bin .leq), [vf 5, .c (I 8)], true⟩
   (.ite (vf 6)
    (.call 221 [[vf 0, vs 1, vs 2]] [[true]]
    (.ret [[vf 7]]))
    (.ret [[.c (.bool false)]]))))
   (.ret [[.c (.bool false)]]))))
theorem c185 : compFn tab (hof [(3, [[true, false, false]]), (4, [[true]]), (7, [[true, false, false]]), (8, [[true]]), (12, [[true, false, false]]), (13, [[true]])]) a_spec_IsValidType [[true, false, false]] = some t185 := by kernel_rfl

/-- spec.l14None -/
def t202 : Tr :=
  (.lett ⟨(.bin .eql), [vf 0, .c (I 0)], true⟩
  (.ite (vf 5)
   (.lett ⟨(.bin .eql), [vf 1, .c (I 0)], true⟩
   (.ite (vf 6)
    (.lett ⟨(.bin .eql), [vf 2, .c (.str ⟨#[]⟩)], true⟩
    (.ite (vf 7)
     (.lett ⟨.len, [vs 3], true⟩
     (.lett ⟨(.bin .eql), [vf 8, .c (I 0)], true⟩
     (.ite (vf 9)
      (.lett ⟨.len, [vs 4], true⟩
      (.lett ⟨(.bin .eql), [vf 10, .c (I 0)], true⟩
      (.ret [[vf 11]])))
      (.ret [[.c (.bool false)]]))))
     (.ret [[.c (.bool false)]])))
    (.ret [[.c (.bool false)]])))
   (.ret [[.c (.bool false)]])))
theorem c202 : compFn tab (hof [(4, [[true]]), (8, [[true]]), (13, [[true]]), (18, [[false]]), (24, [[false]])]) a_spec_l14None [[true, true, true, false, false]] = some t202 := by kernel_rfl

/-- spec.HasType -/
def t203 : Tr :=
  (.call 180 [[vf 0, vf 1, vf 2, vs 3, vs 4]] [[true]]
  (.ite (vf 8)
   (.call 185 [[vf 5, vs 6, vs 7]] [[true]]
   (.ite (vf 9)
    (.call 237 [[vf 0, vf 1, vf 2, vs 3, vs 4], [vf 5, vs 6, vs 7]] [[true]]
    (.ret [[vf 10]]))
    (.ret [[.c (.bool false)]])))
   (.ret [[.c (.bool false)]])))
theorem c203 : compFn tab (hof [(5, [[true, true, true, false, false]]), (6, [[true]]), (8, [[true, false, false]]), (9, [[true]]), (12, [[true, true, true, false, false]]), (13, [[true, false, false]]), (14, [[true]])]) a_spec_HasType [[true, true, true, false, false], [true, false, false]] = some t203 := by kernel_rfl

/-- spec.l1In -/
def t63 : Tr :=
  (.lett ⟨(.bin .geq), [vf 0, vf 1], true⟩
  (.ite (vf 3)
   (.lett ⟨(.bin .leq), [vf 0, vf 2], true⟩
   (.ret [[vf 4]]))
   (.ret [[.c (.bool false)]])))
theorem c63 : compFn tab (hof []) a_spec_l1In [[true], [true], [true]] = some t63 := by kernel_rfl

/-- impl.IsValidType -/
def t189 : Tr :=
  (.call 222 [[vf 0, vs 1, vs 2]] [[true]]
  (.lett ⟨(.bin .leq), [vf 3, .c (I 30)], true⟩
  (.ite (vf 4)
   (.call 223 [[vf 0, vs 1, vs 2]] [[true]]
   (.lett ⟨(.bin .leq), [vf 5, .c (I 8)], true⟩
   (.ite (vf 6)
    (.call 224 [[vf 0, vs 1, vs 2]] [[true]]
    (.ret [[vf 7]]))
    (.ret [[.c (.bool false)]]))))
   (.ret [[.c (.bool false)]]))))
theorem c189 : compFn tab (hof [(3, [[true, false, false]]), (4, [[true]]), (7, [[true, false, false]]), (8, [[true]]), (12, [[true, false, false]]), (13, [[true]])]) a_impl_IsValidType [[true, false, false]] = some t189 := by kernel_rfl

/-- impl.none -/
def t204 : Tr :=
  (.call 178 [[vf 0, vf 1, vf 2, vs 3, vs 4], [.c (I 0), .c (I 0), .c (.str ⟨#[]⟩), .c (Z 1), .c (Z 5)]] [[true]]
  (.ret [[vf 5]]))
theorem c204 : compFn tab (hof [(3, [[true, true, true, false, false]]), (5, [[true]])]) a_impl_none [[true, true, true, false, false]] = some t204 := by kernel_rfl

/-- impl.HasType -/
def t205 : Tr :=
  (.call 182 [[vf 0, vf 1, vf 2, vs 3, vs 4]] [[true]]
  (.ite (vf 8)
   (.call 189 [[vf 5, vs 6, vs 7]] [[true]]
   (.ite (vf 9)
    (.call 238 [[vf 0, vf 1, vf 2, vs 3, vs 4], [vf 5, vs 6, vs 7]] [[true]]
    (.ret [[vf 10]]))
    (.ret [[.c (.bool false)]])))
   (.ret [[.c (.bool false)]])))
theorem c205 : compFn tab (hof [(5, [[true, true, true, false, false]]), (6, [[true]]), (8, [[true, false, false]]), (9, [[true]]), (12, [[true, true, true, false, false]]), (13, [[true, false, false]]), (14, [[true]])]) a_impl_HasType [[true, true, true, false, false], [true, false, false]] = some t205 := by kernel_rfl

/-- impl.stepOk -/
def t80 : Tr :=
  (.lett ⟨(.bin .geq), [vf 0, .c (I (-1000))], true⟩
  (.ite (vf 1)
   (.lett ⟨(.bin .leq), [vf 0, .c (I 1000)], true⟩
   (.ret [[vf 2]]))
   (.ret [[.c (.bool false)]])))
theorem c80 : compFn tab (hof []) a_impl_stepOk [[true]] = some t80 := by kernel_rfl

/-- laws.eqStringS -/
def t103 : Tr :=
  (.lett ⟨.len, [vs 0], true⟩
  (.lett ⟨.len, [vs 1], true⟩
  (.lett ⟨(.bin .neq), [vf 2, vf 3], true⟩
  (.ite (vf 4)
   (.ret [[.c (.bool false)]])
   (.loop 0 [.c (I 0)]
    (.lett ⟨.len, [vs 0], true⟩
    (.lett ⟨(.bin .lss), [vf 5, vf 6], true⟩
    (.ite (vf 7)
     (.lett ⟨(.inb 1), [vs 0, vf 5], true⟩
     (.lett ⟨(.get [(1, 0)]), [vs 0, vf 5], true⟩
     (.lett ⟨(.inb 1), [vs 1, vf 5], true⟩
     (.lett ⟨(.get [(1, 0)]), [vs 1, vf 5], true⟩
     (.lett ⟨(.bin .neq), [vf 9, vf 11], true⟩
     (.ite (vf 12)
      (.ret [[.c (.bool false)]])
      (.lett ⟨(.bin .add), [vf 5, .c (I 1)], true⟩
      (.again 0 [vf 13]))))))))
     (.ret [[.c (.bool true)]])))))))))
theorem c103 : compFn tab (hof [(20, [[true]]), (24, [[true]])]) a_laws_eqStringS [[false], [false]] = some t103 := by kernel_rfl

/-- laws.eqTypeS -/
def t192 : Tr :=
  (.lett ⟨.len, [vs 0], true⟩
  (.lett ⟨.len, [vs 1], true⟩
  (.lett ⟨(.bin .neq), [vf 2, vf 3], true⟩
  (.ite (vf 4)
   (.ret [[.c (.bool false)]])
   (.loop 0 [.c (I 0)]
    (.lett ⟨.len, [vs 0], true⟩
    (.lett ⟨(.bin .lss), [vf 5, vf 6], true⟩
    (.ite (vf 7)
     (.lett ⟨(.inb 3), [vs 0, vf 5], true⟩
     (.lett ⟨(.get [(3, 0)]), [vs 0, vf 5], true⟩
     (.lett ⟨(.get [(3, 1)]), [vs 0, vf 5], false⟩
     (.lett ⟨(.get [(3, 2)]), [vs 0, vf 5], false⟩
     (.lett ⟨(.inb 3), [vs 1, vf 5], true⟩
     (.lett ⟨(.get [(3, 0)]), [vs 1, vf 5], true⟩
     (.lett ⟨(.get [(3, 1)]), [vs 1, vf 5], false⟩
     (.lett ⟨(.get [(3, 2)]), [vs 1, vf 5], false⟩
     (.call 161 [[vf 9, vs 10, vs 11], [vf 13, vs 14, vs 15]] [[true]]
     (.lett ⟨(.un .not), [vf 16], true⟩
     (.ite (vf 17)
      (.ret [[.c (.bool false)]])
      (.lett ⟨(.bin .add), [vf 5, .c (I 1)], true⟩
      (.again 0 [vf 18])))))))))))))
     (.ret [[.c (.bool true)]])))))))))
theorem c192 : compFn tab (hof [(20, [[true, false, false]]), (24, [[true, false, false]]), (25, [[true]])]) a_laws_eqTypeS [[false], [false]] = some t192 := by kernel_rfl

/-- laws.eqValue -/
def t81 : Tr :=
  (.lett ⟨(.bin .neq), [vf 0, vf 5], true⟩
  (.ite (vf 10)
   (.ret [[.c (.bool false)]])
   (.lett ⟨(.bin .neq), [vf 1, vf 6], true⟩
   (.ite (vf 11)
    (.ret [[.c (.bool false)]])
    (.lett ⟨(.bin .neq), [vf 2, vf 7], true⟩
    (.ite (vf 12)
     (.ret [[.c (.bool false)]])
     (.call 103 [[vs 3], [vs 8]] [[true]]
     (.lett ⟨(.un .not), [vf 13], true⟩
     (.ite (vf 14)
      (.ret [[.c (.bool false)]])
      (.call 104 [[vs 4], [vs 9]] [[true]]
      (.lett ⟨(.un .not), [vf 15], true⟩
      (.ite (vf 16)
       (.ret [[.c (.bool false)]])
       (.ret [[.c (.bool true)]])))))))))))))
theorem c81 : compFn tab (hof [(6, [[true]]), (8, [[true]]), (11, [[true]]), (13, [[true]]), (16, [[true]]), (18, [[true]]), (21, [[false]]), (23, [[false]]), (24, [[true]]), (27, [[false]]), (29, [[false]]), (30, [[true]])]) a_laws_eqValue [[true, true, true, false, false], [true, true, true, false, false]] = some t81 := by kernel_rfl

/-- laws.szValueS -/
def t98 : Tr :=
  (.lett ⟨.len, [vs 0], true⟩
  (.lett ⟨(.bin .sub), [vf 1, vf 2], true⟩
  (.lett ⟨(.bin .lss), [vf 3, .c (I 0)], true⟩
  (.ite (vf 4)
   (.ret [[.c (I (-1))]])
   (.loop 0 [vf 3, .c (I 0)]
    (.lett ⟨.len, [vs 0], true⟩
    (.lett ⟨(.bin .lss), [vf 6, vf 7], true⟩
    (.ite (vf 8)
     (.lett ⟨(.inb 5), [vs 0, vf 6], true⟩
     (.lett ⟨(.get [(5, 0)]), [vs 0, vf 6], true⟩
     (.lett ⟨(.get [(5, 1)]), [vs 0, vf 6], true⟩
     (.lett ⟨(.get [(5, 2)]), [vs 0, vf 6], true⟩
     (.lett ⟨(.get [(5, 3)]), [vs 0, vf 6], false⟩
     (.lett ⟨(.get [(5, 4)]), [vs 0, vf 6], false⟩
     (.call 76 [[vf 10, vf 11, vf 12, vs 13, vs 14], [vf 5]] [[true]]
     (.lett ⟨(.bin .lss), [vf 15, .c (I 0)], true⟩
     (.ite (vf 16)
      (.ret [[.c (I (-1))]])
      (.lett ⟨(.bin .add), [vf 6, .c (I 1)], true⟩
      (.again 0 [vf 15, vf 17])))))))))))
     (.ret [[vf 5]])))))))))
theorem c98 : compFn tab (hof [(21, [[true, true, true, false, false]]), (23, [[true]])]) a_laws_szValueS [[false], [true]] = some t98 := by kernel_rfl

/-- laws.toValueS -/
def t101 : Tr :=
  (.lett ⟨.len, [vs 0], true⟩
  (.lett ⟨(.make 5 [(I 0), (I 0), (.str ⟨#[]⟩), (Z 1), (Z 5)]), [vf 1], false⟩
  (.loop 0 [vs 2, .c (I 0)]
   (.lett ⟨.len, [vs 0], true⟩
   (.lett ⟨(.bin .lss), [vf 4, vf 5], true⟩
   (.ite (vf 6)
    (.lett ⟨(.inb 5), [vs 0, vf 4], true⟩
    (.lett ⟨(.get [(5, 0)]), [vs 0, vf 4], true⟩
    (.lett ⟨(.get [(5, 1)]), [vs 0, vf 4], true⟩
    (.lett ⟨(.get [(5, 2)]), [vs 0, vf 4], true⟩
    (.lett ⟨(.get [(5, 3)]), [vs 0, vf 4], false⟩
    (.lett ⟨(.get [(5, 4)]), [vs 0, vf 4], false⟩
    (.call 78 [[vf 8, vf 9, vf 10, vs 11, vs 12]] [[true, true, true, false, false]]
    (.lett ⟨(.inb 5), [vs 3, vf 4], true⟩
    (.lett ⟨(.set [(5, 0)]), [vs 3, vf 4, vf 13, vf 14, vf 15, vs 16, vs 17], false⟩
    (.lett ⟨(.bin .add), [vf 4, .c (I 1)], true⟩
    (.again 0 [vs 19, vf 20])))))))))))
    (.ret [[vs 3]])))))))
theorem c101 : compFn tab (hof [(19, [[true, true, true, false, false]]), (20, [[true, true, true, false, false]])]) a_laws_toValueS [[false]] = some t101 := by kernel_rfl

/-- spec.l3Left -/
def t219 : Tr :=
  (.lett ⟨(.bin .sub), [vf 3, .c (I 1)], true⟩
  (.loop 0 [vf 4, .c (I 0)]
   (.lett ⟨.len, [vs 2], true⟩
   (.lett ⟨(.bin .lss), [vf 6, vf 7], true⟩
   (.ite (vf 8)
    (.lett ⟨(.bin .geq), [vf 5, .c (I 0)], true⟩
    (.ite (vf 9)
     (.lett ⟨(.inb 3), [vs 2, vf 6], true⟩
     (.lett ⟨(.get [(3, 0)]), [vs 2, vf 6], true⟩
     (.lett ⟨(.get [(3, 1)]), [vs 2, vf 6], false⟩
     (.lett ⟨(.get [(3, 2)]), [vs 2, vf 6], false⟩
     (.call 219 [[vf 11, vs 12, vs 13], [vf 5]] [[true]]
     (.lett ⟨(.bin .add), [vf 6, .c (I 1)], true⟩
     (.again 0 [vf 14, vf 15])))))))
     (.ret [[vf 5]])))
    (.ret [[vf 5]]))))))
theorem c219 : compFn tab (hof [(10, [[false]]), (20, [[false]]), (23, [[true, false, false]]), (25, [[true]])]) a_spec_l3Left [[true, false, false], [true]] = some t219 := by kernel_rfl

/-- spec.DepthOfType -/
def t220 : Tr :=
  (.loop 0 [.c (I 0), .c (I 0)]
   (.lett ⟨.len, [vs 2], true⟩
   (.lett ⟨(.bin .lss), [vf 4, vf 5], true⟩
   (.ite (vf 6)
    (.lett ⟨(.inb 3), [vs 2, vf 4], true⟩
    (.lett ⟨(.get [(3, 0)]), [vs 2, vf 4], true⟩
    (.lett ⟨(.get [(3, 1)]), [vs 2, vf 4], false⟩
    (.lett ⟨(.get [(3, 2)]), [vs 2, vf 4], false⟩
    (.call 220 [[vf 8, vs 9, vs 10]] [[true]]
    (.call 129 [[vf 3], [vf 11]] [[true]]
    (.lett ⟨(.bin .add), [vf 4, .c (I 1)], true⟩
    (.again 0 [vf 12, vf 13]))))))))
    (.lett ⟨(.bin .add), [vf 3, .c (I 1)], true⟩
    (.ret [[vf 7]]))))))
theorem c220 : compFn tab (hof [(7, [[false]]), (14, [[false]]), (17, [[true, false, false]]), (18, [[true]]), (19, [[true]])]) a_spec_DepthOfType [[true, false, false]] = some t220 := by kernel_rfl

/-- spec.l3Form -/
def t221 : Tr :=
  (.loop 0 [.c (I 0)]
   (.lett ⟨.len, [vs 2], true⟩
   (.lett ⟨(.bin .lss), [vf 3, vf 4], true⟩
   (.ite (vf 5)
    (.lett ⟨(.inb 3), [vs 2, vf 3], true⟩
    (.lett ⟨(.get [(3, 0)]), [vs 2, vf 3], true⟩
    (.lett ⟨(.get [(3, 1)]), [vs 2, vf 3], false⟩
    (.lett ⟨(.get [(3, 2)]), [vs 2, vf 3], false⟩
    (.call 221 [[vf 7, vs 8, vs 9]] [[true]]
    (.lett ⟨(.un .not), [vf 10], true⟩
    (.ite (vf 11)
     (.ret [[.c (.bool false)]])
     (.lett ⟨(.bin .add), [vf 3, .c (I 1)], true⟩
     (.again 0 [vf 12])))))))))
    (.join 0 [true]
     (.lett ⟨(.bin .eql), [vf 0, .c (I 1)], true⟩
     (.ite (vf 6)
      (.again 0 [.c (.bool true)])
      (.lett ⟨(.bin .eql), [vf 0, .c (I 2)], true⟩
      (.again 0 [vf 7]))))
     (.ite (vf 6)
      (.lett ⟨.len, [vs 1], true⟩
      (.lett ⟨(.bin .eql), [vf 7, .c (I 0)], true⟩
      (.ite (vf 8)
       (.lett ⟨.len, [vs 2], true⟩
       (.lett ⟨(.bin .eql), [vf 9, .c (I 0)], true⟩
       (.ret [[vf 10]])))
       (.ret [[.c (.bool false)]]))))
      (.join 0 [true]
       (.lett ⟨(.bin .eql), [vf 0, .c (I 3)], true⟩
       (.ite (vf 7)
        (.again 0 [.c (.bool true)])
        (.lett ⟨(.bin .eql), [vf 0, .c (I 4)], true⟩
        (.again 0 [vf 8]))))
       (.ite (vf 7)
        (.lett ⟨.len, [vs 2], true⟩
        (.lett ⟨.len, [vs 1], true⟩
        (.lett ⟨(.bin .eql), [vf 8, vf 9], true⟩
        (.ite (vf 10)
         (.call 240 [[vs 1]] [[true]]
         (.ret [[vf 11]]))
         (.ret [[.c (.bool false)]])))))
        (.lett ⟨(.bin .eql), [vf 0, .c (I 5)], true⟩
        (.ite (vf 8)
         (.lett ⟨.len, [vs 1], true⟩
         (.lett ⟨(.bin .eql), [vf 9, .c (I 0)], true⟩
         (.ite (vf 10)
          (.lett ⟨.len, [vs 2], true⟩
          (.lett ⟨(.bin .eql), [vf 11, .c (I 1)], true⟩
          (.ret [[vf 12]])))
          (.ret [[.c (.bool false)]]))))
         (.ret [[.c (.bool false)]])))))))))))
theorem c221 : compFn tab (hof [(6, [[false]]), (12, [[false]]), (15, [[true, false, false]]), (16, [[true]]), (19, [[true]]), (24, [[false]]), (29, [[false]]), (37, [[false]]), (40, [[false]]), (45, [[false]]), (46, [[true]]), (51, [[false]]), (56, [[false]])]) a_spec_l3Form [[true, false, false]] = some t221 := by kernel_rfl

/-- spec.IsValue -/
def t180 : Tr :=
  (.call 212 [[vf 0, vf 1, vf 2, vs 3, vs 4], [.c (I 300)]] [[true]]
  (.lett ⟨(.bin .geq), [vf 5, .c (I 0)], true⟩
  (.ite (vf 6)
   (.call 213 [[vf 0, vf 1, vf 2, vs 3, vs 4]] [[true]]
   (.ret [[vf 7]]))
   (.ret [[.c (.bool false)]]))))
theorem c180 : compFn tab (hof [(3, [[true, true, true, false, false]]), (4, [[true]]), (7, [[true, true, true, false, false]]), (8, [[true]])]) a_spec_IsValue [[true, true, true, false, false]] = some t180 := by kernel_rfl

/-- spec.l5Has -/
def t237 : Tr :=
  (.lett ⟨(.bin .eql), [vf 5, .c (I 1)], true⟩
  (.ite (vf 8)
   (.lett ⟨(.bin .eql), [vf 0, .c (I 1)], true⟩
   (.ret [[vf 9]]))
   (.lett ⟨(.bin .eql), [vf 5, .c (I 2)], true⟩
   (.ite (vf 9)
    (.lett ⟨(.bin .eql), [vf 0, .c (I 2)], true⟩
    (.ret [[vf 10]]))
    (.lett ⟨(.bin .eql), [vf 5, .c (I 3)], true⟩
    (.ite (vf 10)
     (.lett ⟨(.bin .neq), [vf 0, .c (I 3)], true⟩
     (.ite (vf 11)
      (.ret [[.c (.bool false)]])
      (.call 208 [[vs 3], [vs 6]] [[true]]
      (.lett ⟨(.un .not), [vf 12], true⟩
      (.ite (vf 13)
       (.ret [[.c (.bool false)]])
       (.loop 0 [.c (I 0)]
        (.lett ⟨.len, [vs 4], true⟩
        (.lett ⟨(.bin .lss), [vf 14, vf 15], true⟩
        (.ite (vf 16)
         (.lett ⟨(.inb 5), [vs 4, vf 14], true⟩
         (.lett ⟨(.get [(5, 0)]), [vs 4, vf 14], true⟩
         (.lett ⟨(.get [(5, 1)]), [vs 4, vf 14], true⟩
         (.lett ⟨(.get [(5, 2)]), [vs 4, vf 14], true⟩
         (.lett ⟨(.get [(5, 3)]), [vs 4, vf 14], false⟩
         (.lett ⟨(.get [(5, 4)]), [vs 4, vf 14], false⟩
         (.lett ⟨(.inb 3), [vs 7, vf 14], true⟩
         (.lett ⟨(.get [(3, 0)]), [vs 7, vf 14], true⟩
         (.lett ⟨(.get [(3, 1)]), [vs 7, vf 14], false⟩
         (.lett ⟨(.get [(3, 2)]), [vs 7, vf 14], false⟩
         (.call 237 [[vf 18, vf 19, vf 20, vs 21, vs 22], [vf 24, vs 25, vs 26]] [[true]]
         (.lett ⟨(.un .not), [vf 27], true⟩
         (.ite (vf 28)
          (.ret [[.c (.bool false)]])
          (.lett ⟨(.bin .add), [vf 14, .c (I 1)], true⟩
          (.again 0 [vf 29])))))))))))))))
         (.ret [[.c (.bool true)]]))))))))))
     (.lett ⟨(.bin .eql), [vf 5, .c (I 4)], true⟩
     (.ite (vf 11)
      (.call 187 [[vs 6], [vf 2]] [[true]]
      (.lett ⟨(.bin .eql), [vf 0, .c (I 4)], true⟩
      (.ite (vf 13)
       (.lett ⟨(.bin .geq), [vf 12, .c (I 0)], true⟩
       (.ite (vf 14)
        (.lett ⟨(.inb 5), [vs 4, .c (I 0)], true⟩
        (.lett ⟨(.get [(5, 0)]), [vs 4, .c (I 0)], true⟩
        (.lett ⟨(.get [(5, 1)]), [vs 4, .c (I 0)], true⟩
        (.lett ⟨(.get [(5, 2)]), [vs 4, .c (I 0)], true⟩
        (.lett ⟨(.get [(5, 3)]), [vs 4, .c (I 0)], false⟩
        (.lett ⟨(.get [(5, 4)]), [vs 4, .c (I 0)], false⟩
        (.lett ⟨(.inb 3), [vs 7, vf 12], true⟩
        (.lett ⟨(.get [(3, 0)]), [vs 7, vf 12], true⟩
        (.lett ⟨(.get [(3, 1)]), [vs 7, vf 12], false⟩
        (.lett ⟨(.get [(3, 2)]), [vs 7, vf 12], false⟩
        (.call 237 [[vf 16, vf 17, vf 18, vs 19, vs 20], [vf 22, vs 23, vs 24]] [[true]]
        (.ret [[vf 25]]))))))))))))
        (.ret [[.c (.bool false)]])))
       (.ret [[.c (.bool false)]]))))
      (.loop 0 [.c (I 0)]
       (.lett ⟨.len, [vs 4], true⟩
       (.lett ⟨(.bin .lss), [vf 12, vf 13], true⟩
       (.ite (vf 14)
        (.lett ⟨(.bin .eql), [vf 0, .c (I 5)], true⟩
        (.ite (vf 15)
         (.lett ⟨(.inb 5), [vs 4, vf 12], true⟩
         (.lett ⟨(.get [(5, 0)]), [vs 4, vf 12], true⟩
         (.lett ⟨(.get [(5, 1)]), [vs 4, vf 12], true⟩
         (.lett ⟨(.get [(5, 2)]), [vs 4, vf 12], true⟩
         (.lett ⟨(.get [(5, 3)]), [vs 4, vf 12], false⟩
         (.lett ⟨(.get [(5, 4)]), [vs 4, vf 12], false⟩
         (.lett ⟨(.inb 3), [vs 7, .c (I 0)], true⟩
         (.lett ⟨(.get [(3, 0)]), [vs 7, .c (I 0)], true⟩
         (.lett ⟨(.get [(3, 1)]), [vs 7, .c (I 0)], false⟩
         (.lett ⟨(.get [(3, 2)]), [vs 7, .c (I 0)], false⟩
         (.call 237 [[vf 17, vf 18, vf 19, vs 20, vs 21], [vf 23, vs 24, vs 25]] [[true]]
         (.lett ⟨(.un .not), [vf 26], true⟩
         (.ite (vf 27)
          (.ret [[.c (.bool false)]])
          (.lett ⟨(.bin .add), [vf 12, .c (I 1)], true⟩
          (.again 0 [vf 28])))))))))))))))
         (.lett ⟨(.bin .eql), [vf 0, .c (I 5)], true⟩
         (.ret [[vf 16]]))))
        (.lett ⟨(.bin .eql), [vf 0, .c (I 5)], true⟩
        (.ret [[vf 15]]))))))))))))))
theorem c237 : compFn tab (hof [(9, [[true]]), (13, [[true]]), (18, [[true]]), (23, [[true]]), (27, [[false]]), (29, [[false]]), (30, [[true]]), (35, [[false]]), (41, [[false]]), (44, [[true, true, true, false, false]]), (46, [[false]]), (49, [[true, false, false]]), (50, [[true]]), (55, [[false]]), (57, [[true]]), (58, [[true]]), (60, [[true]]), (68, [[false]]), (70, [[true, true, true, false, false]]), (72, [[false]]), (75, [[true, false, false]]), (76, [[true]]), (80, [[false]]), (85, [[true]]), (91, [[false]]), (94, [[true, true, true, false, false]]), (96, [[false]]), (98, [[true, false, false]]), (99, [[true]]), (102, [[true]])]) a_spec_l5Has [[true, true, true, false, false], [true, false, false]] = some t237 := by kernel_rfl

/-- impl.SizeOfType -/
def t222 : Tr :=
  (.lett ⟨.len, [vs 2], true⟩
  (.loop 0 [.c (I 1), .c (I 0)]
   (.lett ⟨(.bin .lss), [vf 5, vf 3], true⟩
   (.ite (vf 6)
    (.lett ⟨(.inb 3), [vs 2, vf 5], true⟩
    (.lett ⟨(.get [(3, 0)]), [vs 2, vf 5], true⟩
    (.lett ⟨(.get [(3, 1)]), [vs 2, vf 5], false⟩
    (.lett ⟨(.get [(3, 2)]), [vs 2, vf 5], false⟩
    (.call 222 [[vf 8, vs 9, vs 10]] [[true]]
    (.lett ⟨(.bin .add), [vf 4, vf 11], true⟩
    (.lett ⟨(.bin .add), [vf 5, .c (I 1)], true⟩
    (.again 0 [vf 12, vf 13]))))))))
    (.ret [[vf 4]])))))
theorem c222 : compFn tab (hof [(7, [[false]]), (12, [[true, false, false]]), (14, [[true, false, false]]), (15, [[true]])]) a_impl_SizeOfType [[true, false, false]] = some t222 := by kernel_rfl

/-- impl.DepthOfType -/
def t223 : Tr :=
  (.lett ⟨.len, [vs 2], true⟩
  (.loop 0 [.c (I 0), .c (I 0)]
   (.lett ⟨(.bin .lss), [vf 5, vf 3], true⟩
   (.ite (vf 6)
    (.lett ⟨(.inb 3), [vs 2, vf 5], true⟩
    (.lett ⟨(.get [(3, 0)]), [vs 2, vf 5], true⟩
    (.lett ⟨(.get [(3, 1)]), [vs 2, vf 5], false⟩
    (.lett ⟨(.get [(3, 2)]), [vs 2, vf 5], false⟩
    (.call 223 [[vf 8, vs 9, vs 10]] [[true]]
    (.lett ⟨.max, [vf 4, vf 11], true⟩
    (.lett ⟨(.bin .add), [vf 5, .c (I 1)], true⟩
    (.again 0 [vf 12, vf 13]))))))))
    (.lett ⟨(.bin .add), [vf 4, .c (I 1)], true⟩
    (.ret [[vf 7]]))))))
theorem c223 : compFn tab (hof [(7, [[false]]), (12, [[true, false, false]]), (14, [[true, false, false]]), (15, [[true]])]) a_impl_DepthOfType [[true, false, false]] = some t223 := by kernel_rfl

/-- impl.typeFormed -/
def t224 : Tr :=
  (.join 0 [true]
   (.join 1 [true]
    (.lett ⟨(.bin .eql), [vf 0, .c (I 1)], true⟩
    (.ite (vf 3)
     (.again 1 [.c (.bool true)])
     (.lett ⟨(.bin .eql), [vf 0, .c (I 2)], true⟩
     (.again 1 [vf 4]))))
    (.ite (vf 3)
     (.lett ⟨.len, [vs 1], true⟩
     (.lett ⟨(.bin .eql), [vf 4, .c (I 0)], true⟩
     (.ite (vf 5)
      (.lett ⟨.len, [vs 2], true⟩
      (.lett ⟨(.bin .eql), [vf 6, .c (I 0)], true⟩
      (.again 0 [vf 7])))
      (.again 0 [.c (.bool false)]))))
     (.join 1 [true]
      (.lett ⟨(.bin .eql), [vf 0, .c (I 3)], true⟩
      (.ite (vf 4)
       (.again 1 [.c (.bool true)])
       (.lett ⟨(.bin .eql), [vf 0, .c (I 4)], true⟩
       (.again 1 [vf 5]))))
      (.ite (vf 4)
       (.lett ⟨.len, [vs 1], true⟩
       (.lett ⟨.len, [vs 2], true⟩
       (.lett ⟨(.bin .eql), [vf 5, vf 6], true⟩
       (.ite (vf 7)
        (.call 241 [[vs 1]] [[true]]
        (.again 0 [vf 8]))
        (.again 0 [.c (.bool false)])))))
       (.lett ⟨(.bin .eql), [vf 0, .c (I 5)], true⟩
       (.ite (vf 5)
        (.lett ⟨.len, [vs 1], true⟩
        (.lett ⟨(.bin .eql), [vf 6, .c (I 0)], true⟩
        (.ite (vf 7)
         (.lett ⟨.len, [vs 2], true⟩
         (.lett ⟨(.bin .eql), [vf 8, .c (I 1)], true⟩
         (.again 0 [vf 9])))
         (.again 0 [.c (.bool false)]))))
        (.again 0 [.c (.bool false)])))))))
   (.lett ⟨.len, [vs 2], true⟩
   (.loop 0 [vf 3, .c (I 0)]
    (.lett ⟨(.bin .lss), [vf 6, vf 4], true⟩
    (.ite (vf 7)
     (.lett ⟨(.inb 3), [vs 2, vf 6], true⟩
     (.lett ⟨(.get [(3, 0)]), [vs 2, vf 6], true⟩
     (.lett ⟨(.get [(3, 1)]), [vs 2, vf 6], false⟩
     (.lett ⟨(.get [(3, 2)]), [vs 2, vf 6], false⟩
     (.ite (vf 5)
      (.call 224 [[vf 9, vs 10, vs 11]] [[true]]
      (.lett ⟨(.bin .add), [vf 6, .c (I 1)], true⟩
      (.again 0 [vf 12, vf 13])))
      (.lett ⟨(.bin .add), [vf 6, .c (I 1)], true⟩
      (.again 0 [.c (.bool false), vf 12])))))))
     (.ret [[vf 5]]))))))
theorem c224 : compFn tab (hof [(7, [[true]]), (12, [[false]]), (17, [[false]]), (25, [[false]]), (28, [[false]]), (33, [[false]]), (34, [[true]]), (39, [[false]]), (44, [[false]]), (49, [[false]]), (54, [[true, false, false]]), (57, [[true, false, false]]), (58, [[true]])]) a_impl_typeFormed [[true, false, false]] = some t224 := by kernel_rfl

/-- impl.EqualValue -/
def t178 : Tr :=
  (.lett ⟨(.bin .eql), [vf 0, vf 5], true⟩
  (.ite (vf 10)
   (.lett ⟨(.bin .eql), [vf 1, vf 6], true⟩
   (.ite (vf 11)
    (.lett ⟨(.bin .eql), [vf 2, vf 7], true⟩
    (.ite (vf 12)
     (.call 210 [[vs 3], [vs 8]] [[true]]
     (.ite (vf 13)
      (.call 211 [[vs 4], [vs 9]] [[true]]
      (.ret [[vf 14]]))
      (.ret [[.c (.bool false)]])))
     (.ret [[.c (.bool false)]])))
    (.ret [[.c (.bool false)]])))
   (.ret [[.c (.bool false)]])))
theorem c178 : compFn tab (hof [(6, [[true]]), (8, [[true]]), (12, [[true]]), (14, [[true]]), (19, [[true]]), (21, [[true]]), (26, [[false]]), (28, [[false]]), (29, [[true]]), (33, [[false]]), (35, [[false]]), (36, [[true]])]) a_impl_EqualValue [[true, true, true, false, false], [true, true, true, false, false]] = some t178 := by kernel_rfl

/-- impl.IsValue -/
def t182 : Tr :=
  (.call 74 [[vf 0, vf 1, vf 2, vs 3, vs 4]] [[true]]
  (.lett ⟨(.bin .leq), [vf 5, .c (I 300)], true⟩
  (.ite (vf 6)
   (.call 216 [[vf 0, vf 1, vf 2, vs 3, vs 4]] [[true]]
   (.ret [[vf 7]]))
   (.ret [[.c (.bool false)]]))))
theorem c182 : compFn tab (hof [(3, [[true, true, true, false, false]]), (4, [[true]]), (7, [[true, true, true, false, false]]), (8, [[true]])]) a_impl_IsValue [[true, true, true, false, false]] = some t182 := by kernel_rfl

/-- impl.ofType -/
def t238 : Tr :=
  (.lett ⟨(.bin .eql), [vf 5, .c (I 1)], true⟩
  (.ite (vf 8)
   (.lett ⟨(.bin .eql), [vf 0, .c (I 1)], true⟩
   (.ret [[vf 9]]))
   (.lett ⟨(.bin .eql), [vf 5, .c (I 2)], true⟩
   (.ite (vf 9)
    (.lett ⟨(.bin .eql), [vf 0, .c (I 2)], true⟩
    (.ret [[vf 10]]))
    (.lett ⟨(.bin .eql), [vf 5, .c (I 3)], true⟩
    (.ite (vf 10)
     (.lett ⟨(.bin .neq), [vf 0, .c (I 3)], true⟩
     (.ite (vf 11)
      (.ret [[.c (.bool false)]])
      (.call 210 [[vs 3], [vs 6]] [[true]]
      (.lett ⟨(.un .not), [vf 12], true⟩
      (.ite (vf 13)
       (.ret [[.c (.bool false)]])
       (.lett ⟨.len, [vs 4], true⟩
       (.loop 0 [vf 5, vs 6, vs 7, .c (I 0)]
        (.lett ⟨(.bin .lss), [vf 18, vf 14], true⟩
        (.ite (vf 19)
         (.lett ⟨(.inb 5), [vs 4, vf 18], true⟩
         (.lett ⟨(.get [(5, 0)]), [vs 4, vf 18], true⟩
         (.lett ⟨(.get [(5, 1)]), [vs 4, vf 18], true⟩
         (.lett ⟨(.get [(5, 2)]), [vs 4, vf 18], true⟩
         (.lett ⟨(.get [(5, 3)]), [vs 4, vf 18], false⟩
         (.lett ⟨(.get [(5, 4)]), [vs 4, vf 18], false⟩
         (.lett ⟨(.inb 3), [vs 17, vf 18], true⟩
         (.lett ⟨(.get [(3, 0)]), [vs 17, vf 18], true⟩
         (.lett ⟨(.get [(3, 1)]), [vs 17, vf 18], false⟩
         (.lett ⟨(.get [(3, 2)]), [vs 17, vf 18], false⟩
         (.call 238 [[vf 21, vf 22, vf 23, vs 24, vs 25], [vf 27, vs 28, vs 29]] [[true]]
         (.lett ⟨(.un .not), [vf 30], true⟩
         (.ite (vf 31)
          (.ret [[.c (.bool false)]])
          (.lett ⟨(.bin .add), [vf 18, .c (I 1)], true⟩
          (.again 0 [vf 15, vs 16, vs 17, vf 32])))))))))))))))
         (.ret [[.c (.bool true)]]))))))))))
     (.lett ⟨(.bin .eql), [vf 5, .c (I 4)], true⟩
     (.ite (vf 11)
      (.call 225 [[vs 6], [vf 2]] [[true]]
      (.lett ⟨(.bin .eql), [vf 0, .c (I 4)], true⟩
      (.ite (vf 13)
       (.lett ⟨(.bin .geq), [vf 12, .c (I 0)], true⟩
       (.ite (vf 14)
        (.lett ⟨(.inb 5), [vs 4, .c (I 0)], true⟩
        (.lett ⟨(.get [(5, 0)]), [vs 4, .c (I 0)], true⟩
        (.lett ⟨(.get [(5, 1)]), [vs 4, .c (I 0)], true⟩
        (.lett ⟨(.get [(5, 2)]), [vs 4, .c (I 0)], true⟩
        (.lett ⟨(.get [(5, 3)]), [vs 4, .c (I 0)], false⟩
        (.lett ⟨(.get [(5, 4)]), [vs 4, .c (I 0)], false⟩
        (.lett ⟨(.inb 3), [vs 7, vf 12], true⟩
        (.lett ⟨(.get [(3, 0)]), [vs 7, vf 12], true⟩
        (.lett ⟨(.get [(3, 1)]), [vs 7, vf 12], false⟩
        (.lett ⟨(.get [(3, 2)]), [vs 7, vf 12], false⟩
        (.call 238 [[vf 16, vf 17, vf 18, vs 19, vs 20], [vf 22, vs 23, vs 24]] [[true]]
        (.ret [[vf 25]]))))))))))))
        (.ret [[.c (.bool false)]])))
       (.ret [[.c (.bool false)]]))))
      (.lett ⟨(.bin .neq), [vf 0, .c (I 5)], true⟩
      (.ite (vf 12)
       (.ret [[.c (.bool false)]])
       (.lett ⟨.len, [vs 4], true⟩
       (.loop 0 [vf 5, vs 6, vs 7, .c (I 0)]
        (.lett ⟨(.bin .lss), [vf 17, vf 13], true⟩
        (.ite (vf 18)
         (.lett ⟨(.inb 5), [vs 4, vf 17], true⟩
         (.lett ⟨(.get [(5, 0)]), [vs 4, vf 17], true⟩
         (.lett ⟨(.get [(5, 1)]), [vs 4, vf 17], true⟩
         (.lett ⟨(.get [(5, 2)]), [vs 4, vf 17], true⟩
         (.lett ⟨(.get [(5, 3)]), [vs 4, vf 17], false⟩
         (.lett ⟨(.get [(5, 4)]), [vs 4, vf 17], false⟩
         (.lett ⟨(.inb 3), [vs 16, .c (I 0)], true⟩
         (.lett ⟨(.get [(3, 0)]), [vs 16, .c (I 0)], true⟩
         (.lett ⟨(.get [(3, 1)]), [vs 16, .c (I 0)], false⟩
         (.lett ⟨(.get [(3, 2)]), [vs 16, .c (I 0)], false⟩
         (.call 238 [[vf 20, vf 21, vf 22, vs 23, vs 24], [vf 26, vs 27, vs 28]] [[true]]
         (.lett ⟨(.un .not), [vf 29], true⟩
         (.ite (vf 30)
          (.ret [[.c (.bool false)]])
          (.lett ⟨(.bin .add), [vf 17, .c (I 1)], true⟩
          (.again 0 [vf 14, vs 15, vs 16, vf 31])))))))))))))))
         (.ret [[.c (.bool true)]])))))))))))))))
theorem c238 : compFn tab (hof [(11, [[true]]), (15, [[true]]), (20, [[true]]), (25, [[true]]), (29, [[false]]), (31, [[false]]), (32, [[true]]), (36, [[false]]), (42, [[true, true, true, false, false]]), (43, [[true, true, true, false, false]]), (45, [[false]]), (48, [[true, false, false]]), (49, [[true]]), (55, [[false]]), (57, [[true]]), (58, [[true]]), (60, [[true]]), (68, [[false]]), (70, [[true, true, true, false, false]]), (72, [[false]]), (75, [[true, false, false]]), (76, [[true]]), (79, [[true]]), (82, [[false]]), (87, [[true, true, true, false, false]]), (88, [[true, true, true, false, false]]), (90, [[false]]), (92, [[true, false, false]]), (93, [[true]])]) a_impl_ofType [[true, true, true, false, false], [true, false, false]] = some t238 := by kernel_rfl

/-- laws.eqValueS -/
def t104 : Tr :=
  (.lett ⟨.len, [vs 0], true⟩
  (.lett ⟨.len, [vs 1], true⟩
  (.lett ⟨(.bin .neq), [vf 2, vf 3], true⟩
  (.ite (vf 4)
   (.ret [[.c (.bool false)]])
   (.loop 0 [.c (I 0)]
    (.lett ⟨.len, [vs 0], true⟩
    (.lett ⟨(.bin .lss), [vf 5, vf 6], true⟩
    (.ite (vf 7)
     (.lett ⟨(.inb 5), [vs 0, vf 5], true⟩
     (.lett ⟨(.get [(5, 0)]), [vs 0, vf 5], true⟩
     (.lett ⟨(.get [(5, 1)]), [vs 0, vf 5], true⟩
     (.lett ⟨(.get [(5, 2)]), [vs 0, vf 5], true⟩
     (.lett ⟨(.get [(5, 3)]), [vs 0, vf 5], false⟩
     (.lett ⟨(.get [(5, 4)]), [vs 0, vf 5], false⟩
     (.lett ⟨(.inb 5), [vs 1, vf 5], true⟩
     (.lett ⟨(.get [(5, 0)]), [vs 1, vf 5], true⟩
     (.lett ⟨(.get [(5, 1)]), [vs 1, vf 5], true⟩
     (.lett ⟨(.get [(5, 2)]), [vs 1, vf 5], true⟩
     (.lett ⟨(.get [(5, 3)]), [vs 1, vf 5], false⟩
     (.lett ⟨(.get [(5, 4)]), [vs 1, vf 5], false⟩
     (.call 81 [[vf 9, vf 10, vf 11, vs 12, vs 13], [vf 15, vf 16, vf 17, vs 18, vs 19]] [[true]]
     (.lett ⟨(.un .not), [vf 20], true⟩
     (.ite (vf 21)
      (.ret [[.c (.bool false)]])
      (.lett ⟨(.bin .add), [vf 5, .c (I 1)], true⟩
      (.again 0 [vf 22])))))))))))))))))
     (.ret [[.c (.bool true)]])))))))))
theorem c104 : compFn tab (hof [(20, [[true, true, true, false, false]]), (24, [[true, true, true, false, false]]), (25, [[true]])]) a_laws_eqValueS [[false], [false]] = some t104 := by kernel_rfl

/-- spec.l1Max -/
def t129 : Tr :=
  (.lett ⟨(.bin .gtr), [vf 0, vf 1], true⟩
  (.ite (vf 2)
   (.ret [[vf 0]])
   (.ret [[vf 1]])))
theorem c129 : compFn tab (hof []) a_spec_l1Max [[true], [true]] = some t129 := by kernel_rfl

/-- spec.l3Labels -/
def t240 : Tr :=
  (.loop 0 [.c (I 0)]
   (.lett ⟨.len, [vs 0], true⟩
   (.lett ⟨(.bin .lss), [vf 1, vf 2], true⟩
   (.ite (vf 3)
    (.lett ⟨(.inb 1), [vs 0, vf 1], true⟩
    (.lett ⟨(.get [(1, 0)]), [vs 0, vf 1], true⟩
    (.call 62 [[vf 5]] [[true]]
    (.lett ⟨(.un .not), [vf 6], true⟩
    (.ite (vf 7)
     (.ret [[.c (.bool false)]])
     (.lett ⟨(.bin .add), [vf 1, .c (I 1)], true⟩
     (.again 0 [vf 8])))))))
    (.lett ⟨.len, [vs 0], true⟩
    (.call 63 [[vf 4], [.c (I 1)], [.c (I 4)]] [[true]]
    (.ite (vf 5)
     (.call 245 [[vs 0]] [[true]]
     (.ret [[vf 6]]))
     (.ret [[.c (.bool false)]]))))))))
theorem c240 : compFn tab (hof [(13, [[true]]), (14, [[true]]), (18, [[true]]), (21, [[true]])]) a_spec_l3Labels [[false]] = some t240 := by kernel_rfl

/-- spec.l5Left -/
def t212 : Tr :=
  (.lett ⟨(.bin .sub), [vf 5, .c (I 1)], true⟩
  (.loop 0 [vf 6, .c (I 0)]
   (.lett ⟨.len, [vs 4], true⟩
   (.lett ⟨(.bin .lss), [vf 8, vf 9], true⟩
   (.ite (vf 10)
    (.lett ⟨(.bin .geq), [vf 7, .c (I 0)], true⟩
    (.ite (vf 11)
     (.lett ⟨(.inb 5), [vs 4, vf 8], true⟩
     (.lett ⟨(.get [(5, 0)]), [vs 4, vf 8], true⟩
     (.lett ⟨(.get [(5, 1)]), [vs 4, vf 8], true⟩
     (.lett ⟨(.get [(5, 2)]), [vs 4, vf 8], true⟩
     (.lett ⟨(.get [(5, 3)]), [vs 4, vf 8], false⟩
     (.lett ⟨(.get [(5, 4)]), [vs 4, vf 8], false⟩
     (.call 212 [[vf 13, vf 14, vf 15, vs 16, vs 17], [vf 7]] [[true]]
     (.lett ⟨(.bin .add), [vf 8, .c (I 1)], true⟩
     (.again 0 [vf 18, vf 19])))))))))
     (.ret [[vf 7]])))
    (.ret [[vf 7]]))))))
theorem c212 : compFn tab (hof [(10, [[false]]), (20, [[false]]), (23, [[true, true, true, false, false]]), (25, [[true]])]) a_spec_l5Left [[true, true, true, false, false], [true]] = some t212 := by kernel_rfl

/-- spec.l5Form -/
def t213 : Tr :=
  (.loop 0 [.c (I 0)]
   (.lett ⟨.len, [vs 4], true⟩
   (.lett ⟨(.bin .lss), [vf 5, vf 6], true⟩
   (.ite (vf 7)
    (.lett ⟨(.inb 5), [vs 4, vf 5], true⟩
    (.lett ⟨(.get [(5, 0)]), [vs 4, vf 5], true⟩
    (.lett ⟨(.get [(5, 1)]), [vs 4, vf 5], true⟩
    (.lett ⟨(.get [(5, 2)]), [vs 4, vf 5], true⟩
    (.lett ⟨(.get [(5, 3)]), [vs 4, vf 5], false⟩
    (.lett ⟨(.get [(5, 4)]), [vs 4, vf 5], false⟩
    (.call 213 [[vf 9, vf 10, vf 11, vs 12, vs 13]] [[true]]
    (.lett ⟨(.un .not), [vf 14], true⟩
    (.ite (vf 15)
     (.ret [[.c (.bool false)]])
     (.lett ⟨(.bin .add), [vf 5, .c (I 1)], true⟩
     (.again 0 [vf 16])))))))))))
    (.lett ⟨(.bin .eql), [vf 0, .c (I 4)], true⟩
    (.join 0 []
     (.call 62 [[vf 2]] [[true]]
     (.lett ⟨(.eqB true), [vf 8, vf 9], true⟩
     (.ite (vf 10)
      (.ret [[.c (.bool false)]])
      (.lett ⟨(.un .not), [vf 8], true⟩
      (.ite (vf 11)
       (.lett ⟨(.bin .neq), [vf 2, .c (.str ⟨#[]⟩)], true⟩
       (.ite (vf 12)
        (.ret [[.c (.bool false)]])
        (.lett ⟨(.bin .neq), [vf 0, .c (I 3)], true⟩
        (.ite (vf 13)
         (.lett ⟨.len, [vs 3], true⟩
         (.lett ⟨(.bin .gtr), [vf 14, .c (I 0)], true⟩
         (.ite (vf 15)
          (.ret [[.c (.bool false)]])
          (.again 0 []))))
         (.again 0 [])))))
       (.lett ⟨(.bin .neq), [vf 0, .c (I 3)], true⟩
       (.ite (vf 12)
        (.lett ⟨.len, [vs 3], true⟩
        (.lett ⟨(.bin .gtr), [vf 13, .c (I 0)], true⟩
        (.ite (vf 14)
         (.ret [[.c (.bool false)]])
         (.again 0 []))))
        (.again 0 []))))))))
     (.lett ⟨(.bin .eql), [vf 0, .c (I 1)], true⟩
     (.ite (vf 9)
      (.lett ⟨.len, [vs 4], true⟩
      (.lett ⟨(.bin .eql), [vf 10, .c (I 0)], true⟩
      (.ret [[vf 11]])))
      (.lett ⟨(.bin .eql), [vf 0, .c (I 2)], true⟩
      (.ite (vf 10)
       (.lett ⟨.len, [vs 4], true⟩
       (.lett ⟨(.bin .eql), [vf 11, .c (I 0)], true⟩
       (.ite (vf 12)
        (.call 63 [[vf 1], [.c (I 0)], [.c (I 1)]] [[true]]
        (.ret [[vf 13]]))
        (.ret [[.c (.bool false)]]))))
       (.lett ⟨(.bin .eql), [vf 0, .c (I 3)], true⟩
       (.ite (vf 11)
        (.lett ⟨(.bin .eql), [vf 1, .c (I 0)], true⟩
        (.ite (vf 12)
         (.lett ⟨.len, [vs 3], true⟩
         (.lett ⟨.len, [vs 4], true⟩
         (.lett ⟨(.bin .eql), [vf 13, vf 14], true⟩
         (.ite (vf 15)
          (.call 240 [[vs 3]] [[true]]
          (.ret [[vf 16]]))
          (.ret [[.c (.bool false)]])))))
         (.ret [[.c (.bool false)]])))
        (.lett ⟨(.bin .eql), [vf 0, .c (I 4)], true⟩
        (.ite (vf 12)
         (.lett ⟨(.bin .eql), [vf 1, .c (I 0)], true⟩
         (.ite (vf 13)
          (.lett ⟨.len, [vs 4], true⟩
          (.lett ⟨(.bin .eql), [vf 14, .c (I 1)], true⟩
          (.ret [[vf 15]])))
          (.ret [[.c (.bool false)]])))
         (.lett ⟨(.bin .eql), [vf 0, .c (I 5)], true⟩
         (.ite (vf 13)
          (.lett ⟨(.bin .eql), [vf 1, .c (I 0)], true⟩
          (.ret [[vf 14]]))
          (.ret [[.c (.bool false)]])))))))))))))))))
theorem c213 : compFn tab (hof [(7, [[false]]), (13, [[false]]), (16, [[true, true, true, false, false]]), (17, [[true]]), (20, [[true]]), (24, [[true]]), (25, [[true]]), (32, [[true]]), (38, [[true]]), (42, [[false]]), (48, [[true]]), (52, [[false]]), (58, [[false]]), (63, [[true]]), (64, [[true]]), (69, [[true]]), (73, [[false]]), (76, [[false]]), (82, [[false]]), (83, [[true]]), (88, [[true]]), (92, [[false]]), (99, [[true]])]) a_spec_l5Form [[true, true, true, false, false]] = some t213 := by kernel_rfl

/-- spec.l3Texts -/
def t208 : Tr :=
  (.lett ⟨.len, [vs 0], true⟩
  (.lett ⟨.len, [vs 1], true⟩
  (.lett ⟨(.bin .neq), [vf 2, vf 3], true⟩
  (.ite (vf 4)
   (.ret [[.c (.bool false)]])
   (.loop 0 [.c (I 0)]
    (.lett ⟨.len, [vs 0], true⟩
    (.lett ⟨(.bin .lss), [vf 5, vf 6], true⟩
    (.ite (vf 7)
     (.lett ⟨(.inb 1), [vs 0, vf 5], true⟩
     (.lett ⟨(.get [(1, 0)]), [vs 0, vf 5], true⟩
     (.lett ⟨(.inb 1), [vs 1, vf 5], true⟩
     (.lett ⟨(.get [(1, 0)]), [vs 1, vf 5], true⟩
     (.lett ⟨(.bin .neq), [vf 9, vf 11], true⟩
     (.ite (vf 12)
      (.ret [[.c (.bool false)]])
      (.lett ⟨(.bin .add), [vf 5, .c (I 1)], true⟩
      (.again 0 [vf 13]))))))))
     (.ret [[.c (.bool true)]])))))))))
theorem c208 : compFn tab (hof [(20, [[true]]), (24, [[true]])]) a_spec_l3Texts [[false], [false]] = some t208 := by kernel_rfl

/-- spec.IndexOf -/
def t187 : Tr :=
  (.loop 0 [.c (I 0)]
   (.lett ⟨.len, [vs 0], true⟩
   (.lett ⟨(.bin .lss), [vf 2, vf 3], true⟩
   (.ite (vf 4)
    (.lett ⟨(.inb 1), [vs 0, vf 2], true⟩
    (.lett ⟨(.get [(1, 0)]), [vs 0, vf 2], true⟩
    (.lett ⟨(.bin .eql), [vf 6, vf 1], true⟩
    (.ite (vf 7)
     (.ret [[vf 2]])
     (.lett ⟨(.bin .add), [vf 2, .c (I 1)], true⟩
     (.again 0 [vf 8]))))))
    (.ret [[.c (I (-1))]])))))
theorem c187 : compFn tab (hof [(15, [[true]])]) a_spec_IndexOf [[false], [true]] = some t187 := by kernel_rfl

/-- impl.labelsOk -/
def t241 : Tr :=
  (.lett ⟨.len, [vs 0], true⟩
  (.lett ⟨(.bin .lss), [vf 1, .c (I 1)], true⟩
  (.ite (vf 2)
   (.ret [[.c (.bool false)]])
   (.lett ⟨.len, [vs 0], true⟩
   (.lett ⟨(.bin .gtr), [vf 3, .c (I 4)], true⟩
   (.ite (vf 4)
    (.ret [[.c (.bool false)]])
    (.call 246 [[vs 0]] [[true]]
    (.lett ⟨(.un .not), [vf 5], true⟩
    (.ite (vf 6)
     (.ret [[.c (.bool false)]])
     (.lett ⟨.len, [vs 0], true⟩
     (.loop 0 [.c (I 0)]
      (.lett ⟨(.bin .lss), [vf 8, vf 7], true⟩
      (.ite (vf 9)
       (.lett ⟨(.inb 1), [vs 0, vf 8], true⟩
       (.lett ⟨(.get [(1, 0)]), [vs 0, vf 8], true⟩
       (.call 64 [[vf 11]] [[true]]
       (.lett ⟨(.un .not), [vf 12], true⟩
       (.ite (vf 13)
        (.ret [[.c (.bool false)]])
        (.lett ⟨(.bin .add), [vf 8, .c (I 1)], true⟩
        (.again 0 [vf 14])))))))
       (.ret [[.c (.bool true)]]))))))))))))))
theorem c241 : compFn tab (hof [(15, [[true]]), (23, [[true]]), (25, [[true]])]) a_impl_labelsOk [[false]] = some t241 := by kernel_rfl

/-- impl.sameStrings -/
def t210 : Tr :=
  (.lett ⟨.len, [vs 0], true⟩
  (.lett ⟨.len, [vs 1], true⟩
  (.lett ⟨(.bin .neq), [vf 2, vf 3], true⟩
  (.ite (vf 4)
   (.ret [[.c (.bool false)]])
   (.lett ⟨.len, [vs 0], true⟩
   (.loop 0 [.c (I 0)]
    (.lett ⟨(.bin .lss), [vf 6, vf 5], true⟩
    (.ite (vf 7)
     (.lett ⟨(.inb 1), [vs 0, vf 6], true⟩
     (.lett ⟨(.get [(1, 0)]), [vs 0, vf 6], true⟩
     (.lett ⟨(.inb 1), [vs 1, vf 6], true⟩
     (.lett ⟨(.get [(1, 0)]), [vs 1, vf 6], true⟩
     (.lett ⟨(.bin .neq), [vf 9, vf 11], true⟩
     (.ite (vf 12)
      (.ret [[.c (.bool false)]])
      (.lett ⟨(.bin .add), [vf 6, .c (I 1)], true⟩
      (.again 0 [vf 13]))))))))
     (.ret [[.c (.bool true)]])))))))))
theorem c210 : compFn tab (hof [(19, [[true]]), (23, [[true]])]) a_impl_sameStrings [[false], [false]] = some t210 := by kernel_rfl

/-- impl.sameValues -/
def t211 : Tr :=
  (.lett ⟨.len, [vs 0], true⟩
  (.lett ⟨.len, [vs 1], true⟩
  (.lett ⟨(.bin .neq), [vf 2, vf 3], true⟩
  (.ite (vf 4)
   (.ret [[.c (.bool false)]])
   (.lett ⟨.len, [vs 0], true⟩
   (.loop 0 [.c (I 0)]
    (.lett ⟨(.bin .lss), [vf 6, vf 5], true⟩
    (.ite (vf 7)
     (.lett ⟨(.inb 5), [vs 0, vf 6], true⟩
     (.lett ⟨(.get [(5, 0)]), [vs 0, vf 6], true⟩
     (.lett ⟨(.get [(5, 1)]), [vs 0, vf 6], true⟩
     (.lett ⟨(.get [(5, 2)]), [vs 0, vf 6], true⟩
     (.lett ⟨(.get [(5, 3)]), [vs 0, vf 6], false⟩
     (.lett ⟨(.get [(5, 4)]), [vs 0, vf 6], false⟩
     (.lett ⟨(.inb 5), [vs 1, vf 6], true⟩
     (.lett ⟨(.get [(5, 0)]), [vs 1, vf 6], true⟩
     (.lett ⟨(.get [(5, 1)]), [vs 1, vf 6], true⟩
     (.lett ⟨(.get [(5, 2)]), [vs 1, vf 6], true⟩
     (.lett ⟨(.get [(5, 3)]), [vs 1, vf 6], false⟩
     (.lett ⟨(.get [(5, 4)]), [vs 1, vf 6], false⟩
     (.call 178 [[vf 9, vf 10, vf 11, vs 12, vs 13], [vf 15, vf 16, vf 17, vs 18, vs 19]] [[true]]
     (.lett ⟨(.un .not), [vf 20], true⟩
     (.ite (vf 21)
      (.ret [[.c (.bool false)]])
      (.lett ⟨(.bin .add), [vf 6, .c (I 1)], true⟩
      (.again 0 [vf 22])))))))))))))))))
     (.ret [[.c (.bool true)]])))))))))
theorem c211 : compFn tab (hof [(19, [[true, true, true, false, false]]), (23, [[true, true, true, false, false]]), (24, [[true]])]) a_impl_sameValues [[false], [false]] = some t211 := by kernel_rfl

/-- impl.SizeOfValue -/
def t74 : Tr :=
  (.lett ⟨.len, [vs 4], true⟩
  (.loop 0 [.c (I 1), .c (I 0)]
   (.lett ⟨(.bin .lss), [vf 7, vf 5], true⟩
   (.ite (vf 8)
    (.lett ⟨(.inb 5), [vs 4, vf 7], true⟩
    (.lett ⟨(.get [(5, 0)]), [vs 4, vf 7], true⟩
    (.lett ⟨(.get [(5, 1)]), [vs 4, vf 7], true⟩
    (.lett ⟨(.get [(5, 2)]), [vs 4, vf 7], true⟩
    (.lett ⟨(.get [(5, 3)]), [vs 4, vf 7], false⟩
    (.lett ⟨(.get [(5, 4)]), [vs 4, vf 7], false⟩
    (.call 74 [[vf 10, vf 11, vf 12, vs 13, vs 14]] [[true]]
    (.lett ⟨(.bin .add), [vf 6, vf 15], true⟩
    (.lett ⟨(.bin .add), [vf 7, .c (I 1)], true⟩
    (.again 0 [vf 16, vf 17]))))))))))
    (.ret [[vf 6]])))))
theorem c74 : compFn tab (hof [(7, [[false]]), (12, [[true, true, true, false, false]]), (14, [[true, true, true, false, false]]), (15, [[true]])]) a_impl_SizeOfValue [[true, true, true, false, false]] = some t74 := by kernel_rfl

/-- impl.valueFormed -/
def t216 : Tr :=
  (.join 0 [true]
   (.lett ⟨(.bin .eql), [vf 0, .c (I 1)], true⟩
   (.ite (vf 5)
    (.lett ⟨(.bin .eql), [vf 2, .c (.str ⟨#[]⟩)], true⟩
    (.ite (vf 6)
     (.lett ⟨.len, [vs 3], true⟩
     (.lett ⟨(.bin .eql), [vf 7, .c (I 0)], true⟩
     (.ite (vf 8)
      (.lett ⟨.len, [vs 4], true⟩
      (.lett ⟨(.bin .eql), [vf 9, .c (I 0)], true⟩
      (.again 0 [vf 10])))
      (.again 0 [.c (.bool false)]))))
     (.again 0 [.c (.bool false)])))
    (.lett ⟨(.bin .eql), [vf 0, .c (I 2)], true⟩
    (.ite (vf 6)
     (.lett ⟨(.bin .eql), [vf 1, .c (I 0)], true⟩
     (.ite (vf 7)
      (.lett ⟨(.bin .eql), [vf 2, .c (.str ⟨#[]⟩)], true⟩
      (.ite (vf 8)
       (.lett ⟨.len, [vs 3], true⟩
       (.lett ⟨(.bin .eql), [vf 9, .c (I 0)], true⟩
       (.ite (vf 10)
        (.lett ⟨.len, [vs 4], true⟩
        (.lett ⟨(.bin .eql), [vf 11, .c (I 0)], true⟩
        (.again 0 [vf 12])))
        (.again 0 [.c (.bool false)]))))
       (.again 0 [.c (.bool false)])))
      (.lett ⟨(.bin .eql), [vf 1, .c (I 1)], true⟩
      (.ite (vf 8)
       (.lett ⟨(.bin .eql), [vf 2, .c (.str ⟨#[]⟩)], true⟩
       (.ite (vf 9)
        (.lett ⟨.len, [vs 3], true⟩
        (.lett ⟨(.bin .eql), [vf 10, .c (I 0)], true⟩
        (.ite (vf 11)
         (.lett ⟨.len, [vs 4], true⟩
         (.lett ⟨(.bin .eql), [vf 12, .c (I 0)], true⟩
         (.again 0 [vf 13])))
         (.again 0 [.c (.bool false)]))))
        (.again 0 [.c (.bool false)])))
       (.again 0 [.c (.bool false)])))))
     (.lett ⟨(.bin .eql), [vf 0, .c (I 3)], true⟩
     (.ite (vf 7)
      (.lett ⟨(.bin .eql), [vf 1, .c (I 0)], true⟩
      (.ite (vf 8)
       (.lett ⟨(.bin .eql), [vf 2, .c (.str ⟨#[]⟩)], true⟩
       (.ite (vf 9)
        (.lett ⟨.len, [vs 3], true⟩
        (.lett ⟨.len, [vs 4], true⟩
        (.lett ⟨(.bin .eql), [vf 10, vf 11], true⟩
        (.ite (vf 12)
         (.call 241 [[vs 3]] [[true]]
         (.again 0 [vf 13]))
         (.again 0 [.c (.bool false)])))))
        (.again 0 [.c (.bool false)])))
       (.again 0 [.c (.bool false)])))
      (.lett ⟨(.bin .eql), [vf 0, .c (I 4)], true⟩
      (.ite (vf 8)
       (.lett ⟨(.bin .eql), [vf 1, .c (I 0)], true⟩
       (.ite (vf 9)
        (.call 64 [[vf 2]] [[true]]
        (.ite (vf 10)
         (.lett ⟨.len, [vs 3], true⟩
         (.lett ⟨(.bin .eql), [vf 11, .c (I 0)], true⟩
         (.ite (vf 12)
          (.lett ⟨.len, [vs 4], true⟩
          (.lett ⟨(.bin .eql), [vf 13, .c (I 1)], true⟩
          (.again 0 [vf 14])))
          (.again 0 [.c (.bool false)]))))
         (.again 0 [.c (.bool false)])))
        (.again 0 [.c (.bool false)])))
       (.lett ⟨(.bin .eql), [vf 0, .c (I 5)], true⟩
       (.ite (vf 9)
        (.lett ⟨(.bin .eql), [vf 1, .c (I 0)], true⟩
        (.ite (vf 10)
         (.lett ⟨(.bin .eql), [vf 2, .c (.str ⟨#[]⟩)], true⟩
         (.ite (vf 11)
          (.lett ⟨.len, [vs 3], true⟩
          (.lett ⟨(.bin .eql), [vf 12, .c (I 0)], true⟩
          (.again 0 [vf 13])))
          (.again 0 [.c (.bool false)])))
         (.again 0 [.c (.bool false)])))
        (.again 0 [.c (.bool false)])))))))))))
   (.lett ⟨.len, [vs 4], true⟩
   (.loop 0 [vf 5, .c (I 0)]
    (.lett ⟨(.bin .lss), [vf 8, vf 6], true⟩
    (.ite (vf 9)
     (.lett ⟨(.inb 5), [vs 4, vf 8], true⟩
     (.lett ⟨(.get [(5, 0)]), [vs 4, vf 8], true⟩
     (.lett ⟨(.get [(5, 1)]), [vs 4, vf 8], true⟩
     (.lett ⟨(.get [(5, 2)]), [vs 4, vf 8], true⟩
     (.lett ⟨(.get [(5, 3)]), [vs 4, vf 8], false⟩
     (.lett ⟨(.get [(5, 4)]), [vs 4, vf 8], false⟩
     (.ite (vf 7)
      (.call 216 [[vf 11, vf 12, vf 13, vs 14, vs 15]] [[true]]
      (.lett ⟨(.bin .add), [vf 8, .c (I 1)], true⟩
      (.again 0 [vf 16, vf 17])))
      (.lett ⟨(.bin .add), [vf 8, .c (I 1)], true⟩
      (.again 0 [.c (.bool false), vf 16])))))))))
     (.ret [[vf 7]]))))))
theorem c216 : compFn tab (hof [(7, [[true]]), (11, [[true]]), (15, [[false]]), (21, [[false]]), (28, [[true]]), (32, [[true]]), (37, [[true]]), (42, [[false]]), (48, [[false]]), (55, [[true]]), (59, [[true]]), (64, [[false]]), (67, [[false]]), (73, [[false]]), (74, [[true]]), (79, [[true]]), (83, [[true]]), (84, [[true]]), (88, [[false]]), (94, [[false]]), (101, [[true]]), (105, [[true]]), (110, [[false]]), (115, [[false]]), (120, [[true, true, true, false, false]]), (123, [[true, true, true, false, false]]), (124, [[true]])]) a_impl_valueFormed [[true, true, true, false, false]] = some t216 := by kernel_rfl

/-- impl.IndexOf -/
def t225 : Tr :=
  (.lett ⟨.len, [vs 0], true⟩
  (.loop 0 [.c (I 0)]
   (.lett ⟨(.bin .lss), [vf 3, vf 2], true⟩
   (.ite (vf 4)
    (.lett ⟨(.inb 1), [vs 0, vf 3], true⟩
    (.lett ⟨(.get [(1, 0)]), [vs 0, vf 3], true⟩
    (.lett ⟨(.bin .eql), [vf 6, vf 1], true⟩
    (.ite (vf 7)
     (.ret [[vf 3]])
     (.lett ⟨(.bin .add), [vf 3, .c (I 1)], true⟩
     (.again 0 [vf 8]))))))
    (.ret [[.c (I (-1))]])))))
theorem c225 : compFn tab (hof [(13, [[true]])]) a_impl_IndexOf [[false], [true]] = some t225 := by kernel_rfl

/-- spec.IsName -/
def t62 : Tr :=
  (.loop 0 [.c (I 0)]
   (.lett ⟨.lenS, [vf 0], true⟩
   (.lett ⟨(.bin .lss), [vf 1, vf 2], true⟩
   (.ite (vf 3)
    (.join 1 [true]
     (.lett ⟨.ix, [vf 0, vf 1], true⟩
     (.lett ⟨(.bin .geq), [vf 4, .c (.int .u8 97)], true⟩
     (.ite (vf 5)
      (.lett ⟨.ix, [vf 0, vf 1], true⟩
      (.lett ⟨(.bin .leq), [vf 6, .c (.int .u8 122)], true⟩
      (.again 1 [vf 7])))
      (.again 1 [.c (.bool false)]))))
     (.lett ⟨(.un .not), [vf 4], true⟩
     (.ite (vf 5)
      (.lett ⟨(.bin .eql), [vf 1, .c (I 0)], true⟩
      (.ite (vf 6)
       (.ret [[.c (.bool false)]])
       (.lett ⟨.ix, [vf 0, vf 1], true⟩
       (.lett ⟨(.bin .lss), [vf 7, .c (.int .u8 48)], true⟩
       (.ite (vf 8)
        (.ret [[.c (.bool false)]])
        (.lett ⟨.ix, [vf 0, vf 1], true⟩
        (.lett ⟨(.bin .gtr), [vf 9, .c (.int .u8 57)], true⟩
        (.ite (vf 10)
         (.ret [[.c (.bool false)]])
         (.lett ⟨(.bin .add), [vf 1, .c (I 1)], true⟩
         (.again 0 [vf 11]))))))))))
      (.lett ⟨(.bin .add), [vf 1, .c (I 1)], true⟩
      (.again 0 [vf 6])))))
    (.lett ⟨.lenS, [vf 0], true⟩
    (.call 63 [[vf 4], [.c (I 1)], [.c (I 4)]] [[true]]
    (.ret [[vf 5]])))))))
theorem c62 : compFn tab (hof [(41, [[true]])]) a_spec_IsName [[true]] = some t62 := by kernel_rfl

/-- spec.AreAscending -/
def t245 : Tr :=
  (.loop 0 [.c (I 1)]
   (.lett ⟨.len, [vs 0], true⟩
   (.lett ⟨(.bin .lss), [vf 1, vf 2], true⟩
   (.ite (vf 3)
    (.lett ⟨(.bin .sub), [vf 1, .c (I 1)], true⟩
    (.lett ⟨(.inb 1), [vs 0, vf 4], true⟩
    (.lett ⟨(.get [(1, 0)]), [vs 0, vf 4], true⟩
    (.lett ⟨(.inb 1), [vs 0, vf 1], true⟩
    (.lett ⟨(.get [(1, 0)]), [vs 0, vf 1], true⟩
    (.lett ⟨(.bin .geq), [vf 6, vf 8], true⟩
    (.ite (vf 9)
     (.ret [[.c (.bool false)]])
     (.lett ⟨(.bin .add), [vf 1, .c (I 1)], true⟩
     (.again 0 [vf 10])))))))))
    (.ret [[.c (.bool true)]])))))
theorem c245 : compFn tab (hof [(14, [[true]]), (18, [[true]])]) a_spec_AreAscending [[false]] = some t245 := by kernel_rfl

/-- impl.AreAscending -/
def t246 : Tr :=
  (.loop 0 [.c (I 1)]
   (.lett ⟨.len, [vs 0], true⟩
   (.lett ⟨(.bin .lss), [vf 1, vf 2], true⟩
   (.ite (vf 3)
    (.lett ⟨(.bin .sub), [vf 1, .c (I 1)], true⟩
    (.lett ⟨(.inb 1), [vs 0, vf 4], true⟩
    (.lett ⟨(.get [(1, 0)]), [vs 0, vf 4], true⟩
    (.lett ⟨(.inb 1), [vs 0, vf 1], true⟩
    (.lett ⟨(.get [(1, 0)]), [vs 0, vf 1], true⟩
    (.lett ⟨(.bin .geq), [vf 6, vf 8], true⟩
    (.ite (vf 9)
     (.ret [[.c (.bool false)]])
     (.lett ⟨(.bin .add), [vf 1, .c (I 1)], true⟩
     (.again 0 [vf 10])))))))))
    (.ret [[.c (.bool true)]])))))
theorem c246 : compFn tab (hof [(14, [[true]]), (18, [[true]])]) a_impl_AreAscending [[false]] = some t246 := by kernel_rfl

/-- impl.IsName -/
def t64 : Tr :=
  (.lett ⟨.lenS, [vf 0], true⟩
  (.lett ⟨(.bin .eql), [vf 1, .c (I 0)], true⟩
  (.ite (vf 2)
   (.ret [[.c (.bool false)]])
   (.lett ⟨.lenS, [vf 0], true⟩
   (.lett ⟨(.bin .gtr), [vf 3, .c (I 4)], true⟩
   (.ite (vf 4)
    (.ret [[.c (.bool false)]])
    (.lett ⟨.lenS, [vf 0], true⟩
    (.loop 0 [.c (I 0)]
     (.lett ⟨(.bin .lss), [vf 6, vf 5], true⟩
     (.ite (vf 7)
      (.lett ⟨.ix, [vf 0, vf 6], true⟩
      (.lett ⟨(.bin .eql), [vf 6, .c (I 0)], true⟩
      (.call 95 [[vf 8], [vf 9]] [[true]]
      (.lett ⟨(.un .not), [vf 10], true⟩
      (.ite (vf 11)
       (.ret [[.c (.bool false)]])
       (.lett ⟨(.bin .add), [vf 6, .c (I 1)], true⟩
       (.again 0 [vf 12])))))))
      (.ret [[.c (.bool true)]])))))))))))
theorem c64 : compFn tab (hof [(22, [[true]])]) a_impl_IsName [[true]] = some t64 := by kernel_rfl

/-- impl.nameByte -/
def t95 : Tr :=
  (.lett ⟨(.bin .geq), [vf 0, .c (.int .u8 97)], true⟩
  (.ite (vf 2)
   (.lett ⟨(.bin .leq), [vf 0, .c (.int .u8 122)], true⟩
   (.ite (vf 3)
    (.ret [[.c (.bool true)]])
    (.lett ⟨(.un .not), [vf 1], true⟩
    (.ite (vf 4)
     (.lett ⟨(.bin .geq), [vf 0, .c (.int .u8 48)], true⟩
     (.ite (vf 5)
      (.lett ⟨(.bin .leq), [vf 0, .c (.int .u8 57)], true⟩
      (.ret [[vf 6]]))
      (.ret [[.c (.bool false)]])))
     (.ret [[.c (.bool false)]])))))
   (.lett ⟨(.un .not), [vf 1], true⟩
   (.ite (vf 3)
    (.lett ⟨(.bin .geq), [vf 0, .c (.int .u8 48)], true⟩
    (.ite (vf 4)
     (.lett ⟨(.bin .leq), [vf 0, .c (.int .u8 57)], true⟩
     (.ret [[vf 5]]))
     (.ret [[.c (.bool false)]])))
    (.ret [[.c (.bool false)]])))))
theorem c95 : compFn tab (hof []) a_impl_nameByte [[true], [true]] = some t95 := by kernel_rfl

end Go.Proofs.Ytkiliooegoldoaa
