/- The functions of the claim, as decision trees. -/
import Derived.Test.YtkiliooegoldoaaTab
import Derived.Test.YtkiliooegoldoaaE6
set_option maxRecDepth 100000
namespace Go.Proofs.Ytkiliooegoldoaa
open Go

/-- laws.FnExactPathText -/
def t6 : Tr :=
  (.call 11 [[vs 0], [.c (I 1048576)]] [[true]]
  (.lett ⟨(.bin .lss), [vf 1, .c (I 0)], true⟩
  (.ite (vf 2)
   (.ret [[.c (.bool true)]])
   (.call 13 [[vs 0]] [[false]]
   (.call 39 [[vs 3]] [[true]]
   (.call 13 [[vs 0]] [[false]]
   (.call 40 [[vs 5]] [[true]]
   (.lett ⟨(.bin .neq), [vf 6, vf 4], true⟩
   (.ite (vf 7)
    (.ret [[.c (.bool false)]])
    (.call 13 [[vs 0]] [[false]]
    (.call 15 [[vs 5], [vs 8]] [[true]]
    (.lett ⟨(.un .not), [vf 9], true⟩
    (.ite (vf 10)
     (.ret [[.c (.bool false)]])
     (.ret [[.c (.bool true)]]))))))))))))))
theorem c6 : compFn tab (hof [(9, [[true]]), (13, [[false]]), (14, [[true]]), (16, [[false]]), (18, [[true]]), (24, [[false]]), (25, [[true]])]) a_laws_FnExactPathText [[false]] = some t6 := by kernel_rfl

/-- laws.szStepS -/
def t11 : Tr :=
  (.lett ⟨.len, [vs 0], true⟩
  (.lett ⟨(.bin .sub), [vf 1, vf 2], true⟩
  (.lett ⟨(.bin .lss), [vf 3, .c (I 0)], true⟩
  (.ite (vf 4)
   (.ret [[.c (I (-1))]])
   (.loop 0 [vf 3, .c (I 0)]
    (.lett ⟨.len, [vs 0], true⟩
    (.lett ⟨(.bin .lss), [vf 6, vf 7], true⟩
    (.ite (vf 8)
     (.lett ⟨(.inb 3), [vs 0, vf 6], true⟩
     (.lett ⟨(.get [(3, 0)]), [vs 0, vf 6], true⟩
     (.lett ⟨(.get [(3, 1)]), [vs 0, vf 6], true⟩
     (.lett ⟨(.get [(3, 2)]), [vs 0, vf 6], true⟩
     (.call 59 [[vf 10, vf 11, vf 12], [vf 5]] [[true]]
     (.lett ⟨(.bin .lss), [vf 13, .c (I 0)], true⟩
     (.ite (vf 14)
      (.ret [[.c (I (-1))]])
      (.lett ⟨(.bin .add), [vf 6, .c (I 1)], true⟩
      (.again 0 [vf 13, vf 15])))))))))
     (.ret [[vf 5]])))))))))
theorem c11 : compFn tab (hof [(21, [[true, true, true]]), (23, [[true]])]) a_laws_szStepS [[false], [true]] = some t11 := by kernel_rfl

/-- laws.toStepS -/
def t13 : Tr :=
  (.lett ⟨.len, [vs 0], true⟩
  (.lett ⟨(.make 3 [(I 0), (.str ⟨#[]⟩), (I 0)]), [vf 1], false⟩
  (.loop 0 [vs 2, .c (I 0)]
   (.lett ⟨.len, [vs 0], true⟩
   (.lett ⟨(.bin .lss), [vf 4, vf 5], true⟩
   (.ite (vf 6)
    (.lett ⟨(.inb 3), [vs 0, vf 4], true⟩
    (.lett ⟨(.get [(3, 0)]), [vs 0, vf 4], true⟩
    (.lett ⟨(.get [(3, 1)]), [vs 0, vf 4], true⟩
    (.lett ⟨(.get [(3, 2)]), [vs 0, vf 4], true⟩
    (.call 60 [[vf 8, vf 9, vf 10]] [[true, true, true]]
    (.lett ⟨(.inb 3), [vs 3, vf 4], true⟩
    (.lett ⟨(.set [(3, 0)]), [vs 3, vf 4, vf 11, vf 12, vf 13], false⟩
    (.lett ⟨(.bin .add), [vf 4, .c (I 1)], true⟩
    (.again 0 [vs 15, vf 16])))))))))
    (.ret [[vs 3]])))))))
theorem c13 : compFn tab (hof [(19, [[true, true, true]]), (20, [[true, true, true]])]) a_laws_toStepS [[false]] = some t13 := by kernel_rfl

/-- spec.PathText -/
def t39 : Tr :=
  (.call 16 [[vs 0]] [[true]]
  (.lett ⟨(.un .not), [vf 1], true⟩
  (.ite (vf 2)
   (.ret [[.c (.str ⟨#[]⟩)]])
   (.loop 0 [.c (.str ⟨#[]⟩), .c (I 0)]
    (.lett ⟨.len, [vs 0], true⟩
    (.lett ⟨(.bin .lss), [vf 4, vf 5], true⟩
    (.ite (vf 6)
     (.lett ⟨(.inb 3), [vs 0, vf 4], true⟩
     (.lett ⟨(.get [(3, 0)]), [vs 0, vf 4], true⟩
     (.lett ⟨(.bin .eql), [vf 8, .c (I 1)], true⟩
     (.ite (vf 9)
      (.lett ⟨(.bin .add), [vf 3, .c (.str ⟨#[46]⟩)], true⟩
      (.lett ⟨(.inb 3), [vs 0, vf 4], true⟩
      (.lett ⟨(.get [(3, 1)]), [vs 0, vf 4], true⟩
      (.lett ⟨(.bin .add), [vf 10, vf 12], true⟩
      (.lett ⟨(.bin .add), [vf 4, .c (I 1)], true⟩
      (.again 0 [vf 13, vf 14]))))))
      (.lett ⟨(.bin .eql), [vf 8, .c (I 2)], true⟩
      (.ite (vf 10)
       (.lett ⟨(.bin .add), [vf 3, .c (.str ⟨#[63]⟩)], true⟩
       (.lett ⟨(.inb 3), [vs 0, vf 4], true⟩
       (.lett ⟨(.get [(3, 1)]), [vs 0, vf 4], true⟩
       (.lett ⟨(.bin .add), [vf 11, vf 13], true⟩
       (.lett ⟨(.bin .add), [vf 4, .c (I 1)], true⟩
       (.again 0 [vf 14, vf 15]))))))
       (.lett ⟨(.bin .eql), [vf 8, .c (I 3)], true⟩
       (.ite (vf 11)
        (.lett ⟨(.bin .add), [vf 3, .c (.str ⟨#[35]⟩)], true⟩
        (.lett ⟨(.inb 3), [vs 0, vf 4], true⟩
        (.lett ⟨(.get [(3, 2)]), [vs 0, vf 4], true⟩
        (.call 69 [[vf 14]] [[true]]
        (.lett ⟨(.bin .add), [vf 12, vf 15], true⟩
        (.lett ⟨(.bin .add), [vf 4, .c (I 1)], true⟩
        (.again 0 [vf 16, vf 17])))))))
        (.lett ⟨(.bin .add), [vf 4, .c (I 1)], true⟩
        (.again 0 [vf 3, vf 12]))))))))))
     (.ret [[vf 3]]))))))))
theorem c39 : compFn tab (hof [(6, [[true]]), (18, [[true]]), (27, [[true]]), (37, [[true]]), (47, [[true]]), (48, [[true]])]) a_spec_PathText [[false]] = some t39 := by kernel_rfl

/-- impl.PathText -/
def t40 : Tr :=
  (.call 17 [[vs 0]] [[true]]
  (.lett ⟨(.un .not), [vf 1], true⟩
  (.ite (vf 2)
   (.ret [[.c (.str ⟨#[]⟩)]])
   (.lett ⟨.len, [vs 0], true⟩
   (.loop 0 [.c (.str ⟨#[]⟩), .c (I 0)]
    (.lett ⟨(.bin .lss), [vf 5, vf 3], true⟩
    (.ite (vf 6)
     (.lett ⟨(.inb 3), [vs 0, vf 5], true⟩
     (.lett ⟨(.get [(3, 0)]), [vs 0, vf 5], true⟩
     (.lett ⟨(.get [(3, 1)]), [vs 0, vf 5], true⟩
     (.lett ⟨(.get [(3, 2)]), [vs 0, vf 5], true⟩
     (.lett ⟨(.bin .eql), [vf 8, .c (I 1)], true⟩
     (.ite (vf 11)
      (.lett ⟨(.bin .add), [.c (.str ⟨#[46]⟩), vf 9], true⟩
      (.lett ⟨(.bin .add), [vf 4, vf 12], true⟩
      (.lett ⟨(.bin .add), [vf 5, .c (I 1)], true⟩
      (.again 0 [vf 13, vf 14]))))
      (.lett ⟨(.bin .eql), [vf 8, .c (I 2)], true⟩
      (.ite (vf 12)
       (.lett ⟨(.bin .add), [.c (.str ⟨#[63]⟩), vf 9], true⟩
       (.lett ⟨(.bin .add), [vf 4, vf 13], true⟩
       (.lett ⟨(.bin .add), [vf 5, .c (I 1)], true⟩
       (.again 0 [vf 14, vf 15]))))
       (.call 70 [[vf 10]] [[true]]
       (.lett ⟨(.bin .add), [.c (.str ⟨#[35]⟩), vf 13], true⟩
       (.lett ⟨(.bin .add), [vf 4, vf 14], true⟩
       (.lett ⟨(.bin .add), [vf 5, .c (I 1)], true⟩
       (.again 0 [vf 15, vf 16])))))))))))))
     (.ret [[vf 4]]))))))))
theorem c40 : compFn tab (hof [(7, [[true]]), (14, [[true, true, true]]), (16, [[true]]), (19, [[true]]), (20, [[true]]), (27, [[true]]), (34, [[true]])]) a_impl_PathText [[false]] = some t40 := by kernel_rfl

/-- laws.eqStepS -/
def t15 : Tr :=
  (.lett ⟨.len, [vs 0], true⟩
  (.lett ⟨.len, [vs 1], true⟩
  (.lett ⟨(.bin .neq), [vf 2, vf 3], true⟩
  (.ite (vf 4)
   (.ret [[.c (.bool false)]])
   (.loop 0 [.c (I 0)]
    (.lett ⟨.len, [vs 0], true⟩
    (.lett ⟨(.bin .lss), [vf 5, vf 6], true⟩
    (.ite (vf 7)
     (.lett ⟨(.inb 3), [vs 0, vf 5], true⟩
     (.lett ⟨(.get [(3, 0)]), [vs 0, vf 5], true⟩
     (.lett ⟨(.get [(3, 1)]), [vs 0, vf 5], true⟩
     (.lett ⟨(.get [(3, 2)]), [vs 0, vf 5], true⟩
     (.lett ⟨(.inb 3), [vs 1, vf 5], true⟩
     (.lett ⟨(.get [(3, 0)]), [vs 1, vf 5], true⟩
     (.lett ⟨(.get [(3, 1)]), [vs 1, vf 5], true⟩
     (.lett ⟨(.get [(3, 2)]), [vs 1, vf 5], true⟩
     (.call 61 [[vf 9, vf 10, vf 11], [vf 13, vf 14, vf 15]] [[true]]
     (.lett ⟨(.un .not), [vf 16], true⟩
     (.ite (vf 17)
      (.ret [[.c (.bool false)]])
      (.lett ⟨(.bin .add), [vf 5, .c (I 1)], true⟩
      (.again 0 [vf 18])))))))))))))
     (.ret [[.c (.bool true)]])))))))))
theorem c15 : compFn tab (hof [(20, [[true, true, true]]), (24, [[true, true, true]]), (25, [[true]])]) a_laws_eqStepS [[false], [false]] = some t15 := by kernel_rfl

/-- laws.szStep -/
def t59 : Tr :=
  (.lett ⟨.lenS, [vf 1], true⟩
  (.lett ⟨(.bin .sub), [vf 3, vf 4], true⟩
  (.lett ⟨(.bin .lss), [vf 5, .c (I 0)], true⟩
  (.ite (vf 6)
   (.ret [[.c (I (-1))]])
   (.ret [[vf 5]])))))
theorem c59 : compFn tab (hof [(7, [[true]])]) a_laws_szStep [[true, true, true], [true]] = some t59 := by kernel_rfl

/-- laws.toStep -/
def t60 : Tr :=
  (.ret [[vf 0, vf 1, vf 2]])
theorem c60 : compFn tab (hof [(5, [[true]]), (8, [[true]]), (11, [[true]]), (13, [[true, true, true]])]) a_laws_toStep [[true, true, true]] = some t60 := by kernel_rfl

/-- spec.IsPath -/
def t16 : Tr :=
  (.loop 0 [.c (I 0)]
   (.lett ⟨.len, [vs 0], true⟩
   (.lett ⟨(.bin .lss), [vf 1, vf 2], true⟩
   (.ite (vf 3)
    (.lett ⟨(.inb 3), [vs 0, vf 1], true⟩
    (.lett ⟨(.get [(3, 0)]), [vs 0, vf 1], true⟩
    (.lett ⟨(.get [(3, 1)]), [vs 0, vf 1], true⟩
    (.lett ⟨(.get [(3, 2)]), [vs 0, vf 1], true⟩
    (.join 1 [true]
     (.lett ⟨(.bin .eql), [vf 5, .c (I 1)], true⟩
     (.ite (vf 8)
      (.again 1 [.c (.bool true)])
      (.lett ⟨(.bin .eql), [vf 5, .c (I 2)], true⟩
      (.again 1 [vf 9]))))
     (.ite (vf 8)
      (.call 62 [[vf 6]] [[true]]
      (.lett ⟨(.un .not), [vf 9], true⟩
      (.ite (vf 10)
       (.ret [[.c (.bool false)]])
       (.lett ⟨(.bin .neq), [vf 7, .c (I 0)], true⟩
       (.ite (vf 11)
        (.ret [[.c (.bool false)]])
        (.lett ⟨(.bin .add), [vf 1, .c (I 1)], true⟩
        (.again 0 [vf 12])))))))
      (.lett ⟨(.bin .eql), [vf 5, .c (I 3)], true⟩
      (.ite (vf 9)
       (.lett ⟨(.bin .neq), [vf 6, .c (.str ⟨#[]⟩)], true⟩
       (.ite (vf 10)
        (.ret [[.c (.bool false)]])
        (.call 63 [[vf 7], [.c (I 0)], [.c (I 1000)]] [[true]]
        (.lett ⟨(.un .not), [vf 11], true⟩
        (.ite (vf 12)
         (.ret [[.c (.bool false)]])
         (.lett ⟨(.bin .add), [vf 1, .c (I 1)], true⟩
         (.again 0 [vf 13])))))))
       (.ret [[.c (.bool false)]])))))))))
    (.lett ⟨.len, [vs 0], true⟩
    (.lett ⟨(.bin .leq), [vf 4, .c (I 12)], true⟩
    (.ret [[vf 5]])))))))
theorem c16 : compFn tab (hof [(14, [[true, true, true]]), (16, [[true]]), (21, [[true]]), (22, [[true]]), (26, [[true]]), (32, [[true]]), (36, [[true]]), (37, [[true]])]) a_spec_IsPath [[false]] = some t16 := by kernel_rfl

/-- spec.FormatInt -/
def t69 : Tr :=
  (.lett ⟨(.bin .eql), [vf 0, .c (I 0)], true⟩
  (.ite (vf 1)
   (.ret [[.c (.str ⟨#[48]⟩)]])
   (.lett ⟨(.bin .lss), [vf 0, .c (I 0)], true⟩
   (.loop 0 [vf 0, .c (.str ⟨#[]⟩)]
    (.lett ⟨(.bin .neq), [vf 3, .c (I 0)], true⟩
    (.ite (vf 5)
     (.lett ⟨(.bin .rem), [vf 3, .c (I 10)], true⟩
     (.join 1 [true]
      (.lett ⟨(.bin .lss), [vf 6, .c (I 0)], true⟩
      (.ite (vf 7)
       (.lett ⟨(.bin .sub), [.c (I 0), vf 6], true⟩
       (.again 1 [vf 8]))
       (.again 1 [vf 6])))
      (.lett ⟨(.bin .add), [.c (I 48), vf 7], true⟩
      (.lett ⟨(.conv .u8), [vf 8], true⟩
      (.lett ⟨(.mk 1 [1]), [vf 9], false⟩
      (.lett ⟨.bytesStr, [vs 10], true⟩
      (.lett ⟨(.bin .add), [vf 11, vf 4], true⟩
      (.lett ⟨(.bin .quo), [vf 3, .c (I 10)], true⟩
      (.again 0 [vf 13, vf 12])))))))))
     (.ite (vf 2)
      (.lett ⟨(.bin .add), [.c (.str ⟨#[45]⟩), vf 4], true⟩
      (.ret [[vf 6]]))
      (.ret [[vf 4]]))))))))
theorem c69 : compFn tab (hof []) a_spec_FormatInt [[true]] = some t69 := by kernel_rfl

/-- impl.IsPath -/
def t17 : Tr :=
  (.lett ⟨.len, [vs 0], true⟩
  (.lett ⟨(.bin .gtr), [vf 1, .c (I 12)], true⟩
  (.ite (vf 2)
   (.ret [[.c (.bool false)]])
   (.lett ⟨.len, [vs 0], true⟩
   (.loop 0 [.c (I 0)]
    (.lett ⟨(.bin .lss), [vf 4, vf 3], true⟩
    (.ite (vf 5)
     (.lett ⟨(.inb 3), [vs 0, vf 4], true⟩
     (.lett ⟨(.get [(3, 0)]), [vs 0, vf 4], true⟩
     (.lett ⟨(.get [(3, 1)]), [vs 0, vf 4], true⟩
     (.lett ⟨(.get [(3, 2)]), [vs 0, vf 4], true⟩
     (.join 1 [true]
      (.lett ⟨(.bin .eql), [vf 7, .c (I 1)], true⟩
      (.ite (vf 10)
       (.again 1 [.c (.bool true)])
       (.lett ⟨(.bin .eql), [vf 7, .c (I 2)], true⟩
       (.again 1 [vf 11]))))
      (.ite (vf 10)
       (.call 64 [[vf 8]] [[true]]
       (.lett ⟨(.un .not), [vf 11], true⟩
       (.ite (vf 12)
        (.ret [[.c (.bool false)]])
        (.lett ⟨(.bin .neq), [vf 9, .c (I 0)], true⟩
        (.ite (vf 13)
         (.ret [[.c (.bool false)]])
         (.lett ⟨(.bin .add), [vf 4, .c (I 1)], true⟩
         (.again 0 [vf 14])))))))
       (.lett ⟨(.bin .eql), [vf 7, .c (I 3)], true⟩
       (.ite (vf 11)
        (.lett ⟨(.bin .neq), [vf 8, .c (.str ⟨#[]⟩)], true⟩
        (.ite (vf 12)
         (.ret [[.c (.bool false)]])
         (.lett ⟨(.bin .lss), [vf 9, .c (I 0)], true⟩
         (.ite (vf 13)
          (.ret [[.c (.bool false)]])
          (.lett ⟨(.bin .gtr), [vf 9, .c (I 1000)], true⟩
          (.ite (vf 14)
           (.ret [[.c (.bool false)]])
           (.lett ⟨(.bin .add), [vf 4, .c (I 1)], true⟩
           (.again 0 [vf 15]))))))))
        (.ret [[.c (.bool false)]])))))))))
     (.ret [[.c (.bool true)]]))))))))
theorem c17 : compFn tab (hof [(13, [[true, true, true]]), (15, [[true]]), (20, [[true]]), (21, [[true]]), (25, [[true]]), (31, [[true]]), (35, [[true]]), (40, [[true]])]) a_impl_IsPath [[false]] = some t17 := by kernel_rfl

/-- impl.FormatInt -/
def t70 : Tr :=
  (.lett ⟨(.bin .lss), [vf 0, .c (I 0)], true⟩
  (.ite (vf 1)
   (.lett ⟨(.conv .u64), [vf 0], true⟩
   (.lett ⟨(.un .neg), [vf 2], true⟩
   (.call 96 [[vf 3]] [[true]]
   (.lett ⟨(.bin .add), [.c (.str ⟨#[45]⟩), vf 4], true⟩
   (.ret [[vf 5]])))))
   (.lett ⟨(.conv .u64), [vf 0], true⟩
   (.call 96 [[vf 2]] [[true]]
   (.ret [[vf 3]])))))
theorem c70 : compFn tab (hof [(8, [[true]]), (12, [[true]])]) a_impl_FormatInt [[true]] = some t70 := by kernel_rfl

/-- laws.eqStep -/
def t61 : Tr :=
  (.lett ⟨(.bin .neq), [vf 0, vf 3], true⟩
  (.ite (vf 6)
   (.ret [[.c (.bool false)]])
   (.lett ⟨(.bin .neq), [vf 1, vf 4], true⟩
   (.ite (vf 7)
    (.ret [[.c (.bool false)]])
    (.lett ⟨(.bin .neq), [vf 2, vf 5], true⟩
    (.ite (vf 8)
     (.ret [[.c (.bool false)]])
     (.ret [[.c (.bool true)]])))))))
theorem c61 : compFn tab (hof [(6, [[true]]), (8, [[true]]), (11, [[true]]), (13, [[true]]), (16, [[true]]), (18, [[true]])]) a_laws_eqStep [[true, true, true], [true, true, true]] = some t61 := by kernel_rfl

/-- spec.IsName -/
def t62 : Tr :=
  (.loop 0 [.c (I 0)]
   (.lett ⟨.lenS, [vf 0], true⟩
   (.lett ⟨(.bin .lss), [vf 1, vf 2], true⟩
   (.ite (vf 3)
    (.join 1 [true]
     (.lett ⟨.ix, [vf 0, vf 1], true⟩
     (.lett ⟨(.bin .geq), [vf 4, .c (.int .u8 97)], true⟩
     (.ite (vf 5)
      (.lett ⟨.ix, [vf 0, vf 1], true⟩
      (.lett ⟨(.bin .leq), [vf 6, .c (.int .u8 122)], true⟩
      (.again 1 [vf 7])))
      (.again 1 [.c (.bool false)]))))
     (.lett ⟨(.un .not), [vf 4], true⟩
     (.ite (vf 5)
      (.lett ⟨(.bin .eql), [vf 1, .c (I 0)], true⟩
      (.ite (vf 6)
       (.ret [[.c (.bool false)]])
       (.lett ⟨.ix, [vf 0, vf 1], true⟩
       (.lett ⟨(.bin .lss), [vf 7, .c (.int .u8 48)], true⟩
       (.ite (vf 8)
        (.ret [[.c (.bool false)]])
        (.lett ⟨.ix, [vf 0, vf 1], true⟩
        (.lett ⟨(.bin .gtr), [vf 9, .c (.int .u8 57)], true⟩
        (.ite (vf 10)
         (.ret [[.c (.bool false)]])
         (.lett ⟨(.bin .add), [vf 1, .c (I 1)], true⟩
         (.again 0 [vf 11]))))))))))
      (.lett ⟨(.bin .add), [vf 1, .c (I 1)], true⟩
      (.again 0 [vf 6])))))
    (.lett ⟨.lenS, [vf 0], true⟩
    (.call 63 [[vf 4], [.c (I 1)], [.c (I 4)]] [[true]]
    (.ret [[vf 5]])))))))
theorem c62 : compFn tab (hof [(41, [[true]])]) a_spec_IsName [[true]] = some t62 := by kernel_rfl

/-- spec.l1In -/
def t63 : Tr :=
  (.lett ⟨(.bin .geq), [vf 0, vf 1], true⟩
  (.ite (vf 3)
   (.lett ⟨(.bin .leq), [vf 0, vf 2], true⟩
   (.ret [[vf 4]]))
   (.ret [[.c (.bool false)]])))
theorem c63 : compFn tab (hof []) a_spec_l1In [[true], [true], [true]] = some t63 := by kernel_rfl

/-- impl.IsName -/
def t64 : Tr :=
  (.lett ⟨.lenS, [vf 0], true⟩
  (.lett ⟨(.bin .eql), [vf 1, .c (I 0)], true⟩
  (.ite (vf 2)
   (.ret [[.c (.bool false)]])
   (.lett ⟨.lenS, [vf 0], true⟩
   (.lett ⟨(.bin .gtr), [vf 3, .c (I 4)], true⟩
   (.ite (vf 4)
    (.ret [[.c (.bool false)]])
    (.lett ⟨.lenS, [vf 0], true⟩
    (.loop 0 [.c (I 0)]
     (.lett ⟨(.bin .lss), [vf 6, vf 5], true⟩
     (.ite (vf 7)
      (.lett ⟨.ix, [vf 0, vf 6], true⟩
      (.lett ⟨(.bin .eql), [vf 6, .c (I 0)], true⟩
      (.call 95 [[vf 8], [vf 9]] [[true]]
      (.lett ⟨(.un .not), [vf 10], true⟩
      (.ite (vf 11)
       (.ret [[.c (.bool false)]])
       (.lett ⟨(.bin .add), [vf 6, .c (I 1)], true⟩
       (.again 0 [vf 12])))))))
      (.ret [[.c (.bool true)]])))))))))))
theorem c64 : compFn tab (hof [(22, [[true]])]) a_impl_IsName [[true]] = some t64 := by kernel_rfl

/-- impl.digitsOf -/
def t96 : Tr :=
  (.lett ⟨(.bin .lss), [vf 0, .c (.int .u64 10)], true⟩
  (.ite (vf 1)
   (.lett ⟨(.bin .add), [.c (.int .u64 48), vf 0], true⟩
   (.lett ⟨(.conv .u8), [vf 2], true⟩
   (.lett ⟨(.mk 1 [1]), [vf 3], false⟩
   (.lett ⟨.bytesStr, [vs 4], true⟩
   (.ret [[vf 5]])))))
   (.lett ⟨(.bin .quo), [vf 0, .c (.int .u64 10)], true⟩
   (.call 96 [[vf 2]] [[true]]
   (.lett ⟨(.bin .rem), [vf 0, .c (.int .u64 10)], true⟩
   (.lett ⟨(.bin .add), [.c (.int .u64 48), vf 4], true⟩
   (.lett ⟨(.conv .u8), [vf 5], true⟩
   (.lett ⟨(.mk 1 [1]), [vf 6], false⟩
   (.lett ⟨.bytesStr, [vs 7], true⟩
   (.lett ⟨(.bin .add), [vf 3, vf 8], true⟩
   (.ret [[vf 9]])))))))))))
theorem c96 : compFn tab (hof [(12, [[true]])]) a_impl_digitsOf [[true]] = some t96 := by kernel_rfl

/-- impl.nameByte -/
def t95 : Tr :=
  (.lett ⟨(.bin .geq), [vf 0, .c (.int .u8 97)], true⟩
  (.ite (vf 2)
   (.lett ⟨(.bin .leq), [vf 0, .c (.int .u8 122)], true⟩
   (.ite (vf 3)
    (.ret [[.c (.bool true)]])
    (.lett ⟨(.un .not), [vf 1], true⟩
    (.ite (vf 4)
     (.lett ⟨(.bin .geq), [vf 0, .c (.int .u8 48)], true⟩
     (.ite (vf 5)
      (.lett ⟨(.bin .leq), [vf 0, .c (.int .u8 57)], true⟩
      (.ret [[vf 6]]))
      (.ret [[.c (.bool false)]])))
     (.ret [[.c (.bool false)]])))))
   (.lett ⟨(.un .not), [vf 1], true⟩
   (.ite (vf 3)
    (.lett ⟨(.bin .geq), [vf 0, .c (.int .u8 48)], true⟩
    (.ite (vf 4)
     (.lett ⟨(.bin .leq), [vf 0, .c (.int .u8 57)], true⟩
     (.ret [[vf 5]]))
     (.ret [[.c (.bool false)]])))
    (.ret [[.c (.bool false)]])))))
theorem c95 : compFn tab (hof []) a_impl_nameByte [[true], [true]] = some t95 := by kernel_rfl

end Go.Proofs.Ytkiliooegoldoaa
