/- The functions of the claim, as decision trees. -/
import Derived.Test.YtdgmelniiclbnaaTab
import Derived.Test.YtdgmelniiclbnaaRl
set_option maxRecDepth 100000
namespace Go.Proofs.Ytdgmelniiclbnaa
open Go

/-- laws.FnExactIsPrefix -/
def t0 : Tr :=
  (.call 11 [[vs 0], [.c (I 1048576)]] [[true]]
  (.lett ⟨(.bin .lss), [vf 2, .c (I 0)], true⟩
  (.ite (vf 3)
   (.ret [[.c (.bool true)]])
   (.call 11 [[vs 1], [vf 2]] [[true]]
   (.lett ⟨(.bin .lss), [vf 4, .c (I 0)], true⟩
   (.ite (vf 5)
    (.ret [[.c (.bool true)]])
    (.call 13 [[vs 0]] [[false]]
    (.call 13 [[vs 1]] [[false]]
    (.call 12 [[vs 6], [vs 7]] [[true]]
    (.call 13 [[vs 0]] [[false]]
    (.call 13 [[vs 1]] [[false]]
    (.call 14 [[vs 9], [vs 10]] [[true]]
    (.lett ⟨(.eqB true), [vf 11, vf 8], true⟩
    (.ite (vf 12)
     (.ret [[.c (.bool false)]])
     (.call 13 [[vs 0]] [[false]]
     (.call 15 [[vs 9], [vs 13]] [[true]]
     (.lett ⟨(.un .not), [vf 14], true⟩
     (.ite (vf 15)
      (.ret [[.c (.bool false)]])
      (.call 13 [[vs 1]] [[false]]
      (.call 15 [[vs 10], [vs 16]] [[true]]
      (.lett ⟨(.un .not), [vf 17], true⟩
      (.ite (vf 18)
       (.ret [[.c (.bool false)]])
       (.ret [[.c (.bool true)]])))))))))))))))))))))))
theorem c0 : compFn tab (hof [(12, [[true]]), (17, [[true]]), (21, [[false]]), (23, [[false]]), (24, [[true]]), (26, [[false]]), (28, [[false]]), (31, [[true]]), (37, [[false]]), (38, [[true]]), (42, [[false]]), (43, [[true]])]) a_laws_FnExactIsPrefix [[false], [false]] = some t0 := by kernel_rfl

/-- laws.szStepS -/
def t11 : Tr :=
  (.lett ⟨.len, [vs 0], true⟩
  (.lett ⟨(.bin .sub), [vf 1, vf 2], true⟩
  (.lett ⟨(.bin .lss), [vf 3, .c (I 0)], true⟩
  (.ite (vf 4)
   (.ret [[.c (I (-1))]])
   (.loop 0 [vf 3, .c (I 0)]
    (.lett ⟨.len, [vs 0], true⟩
    (.lett ⟨(.bin .lss), [vf 6, vf 7], true⟩
    (.ite (vf 8)
     (.lett ⟨(.inb 3), [vs 0, vf 6], true⟩
     (.lett ⟨(.get [(3, 0)]), [vs 0, vf 6], true⟩
     (.lett ⟨(.get [(3, 1)]), [vs 0, vf 6], true⟩
     (.lett ⟨(.get [(3, 2)]), [vs 0, vf 6], true⟩
     (.call 59 [[vf 10, vf 11, vf 12], [vf 5]] [[true]]
     (.lett ⟨(.bin .lss), [vf 13, .c (I 0)], true⟩
     (.ite (vf 14)
      (.ret [[.c (I (-1))]])
      (.lett ⟨(.bin .add), [vf 6, .c (I 1)], true⟩
      (.again 0 [vf 13, vf 15])))))))))
     (.ret [[vf 5]])))))))))
theorem c11 : compFn tab (hof [(21, [[true, true, true]]), (23, [[true]])]) a_laws_szStepS [[false], [true]] = some t11 := by kernel_rfl

/-- laws.toStepS -/
def t13 : Tr :=
  (.lett ⟨.len, [vs 0], true⟩
  (.lett ⟨(.make 3 [(I 0), (.str ⟨#[]⟩), (I 0)]), [vf 1], false⟩
  (.loop 0 [vs 2, .c (I 0)]
   (.lett ⟨.len, [vs 0], true⟩
   (.lett ⟨(.bin .lss), [vf 4, vf 5], true⟩
   (.ite (vf 6)
    (.lett ⟨(.inb 3), [vs 0, vf 4], true⟩
    (.lett ⟨(.get [(3, 0)]), [vs 0, vf 4], true⟩
    (.lett ⟨(.get [(3, 1)]), [vs 0, vf 4], true⟩
    (.lett ⟨(.get [(3, 2)]), [vs 0, vf 4], true⟩
    (.call 60 [[vf 8, vf 9, vf 10]] [[true, true, true]]
    (.lett ⟨(.inb 3), [vs 3, vf 4], true⟩
    (.lett ⟨(.set [(3, 0)]), [vs 3, vf 4, vf 11, vf 12, vf 13], false⟩
    (.lett ⟨(.bin .add), [vf 4, .c (I 1)], true⟩
    (.again 0 [vs 15, vf 16])))))))))
    (.ret [[vs 3]])))))))
theorem c13 : compFn tab (hof [(19, [[true, true, true]]), (20, [[true, true, true]])]) a_laws_toStepS [[false]] = some t13 := by kernel_rfl

/-- spec.IsPrefix -/
def t12 : Tr :=
  (.lett ⟨.len, [vs 0], true⟩
  (.lett ⟨.len, [vs 1], true⟩
  (.lett ⟨(.bin .gtr), [vf 2, vf 3], true⟩
  (.ite (vf 4)
   (.ret [[.c (.bool false)]])
   (.loop 0 [.c (I 0)]
    (.lett ⟨.len, [vs 0], true⟩
    (.lett ⟨(.bin .lss), [vf 5, vf 6], true⟩
    (.ite (vf 7)
     (.lett ⟨(.inb 3), [vs 0, vf 5], true⟩
     (.lett ⟨(.get [(3, 0)]), [vs 0, vf 5], true⟩
     (.lett ⟨(.get [(3, 1)]), [vs 0, vf 5], true⟩
     (.lett ⟨(.get [(3, 2)]), [vs 0, vf 5], true⟩
     (.lett ⟨(.inb 3), [vs 1, vf 5], true⟩
     (.lett ⟨(.get [(3, 0)]), [vs 1, vf 5], true⟩
     (.lett ⟨(.get [(3, 1)]), [vs 1, vf 5], true⟩
     (.lett ⟨(.get [(3, 2)]), [vs 1, vf 5], true⟩
     (.lett ⟨(.eqAgg true [0, 2, 0]), [vf 9, vf 10, vf 11, vf 13, vf 14, vf 15], true⟩
     (.ite (vf 16)
      (.ret [[.c (.bool false)]])
      (.lett ⟨(.bin .add), [vf 5, .c (I 1)], true⟩
      (.again 0 [vf 17]))))))))))))
     (.ret [[.c (.bool true)]])))))))))
theorem c12 : compFn tab (hof [(20, [[true, true, true]]), (24, [[true, true, true]])]) a_spec_IsPrefix [[false], [false]] = some t12 := by kernel_rfl

/-- impl.IsPrefix -/
def t14 : Tr :=
  (.lett ⟨.len, [vs 0], true⟩
  (.lett ⟨.len, [vs 1], true⟩
  (.lett ⟨(.bin .gtr), [vf 2, vf 3], true⟩
  (.ite (vf 4)
   (.ret [[.c (.bool false)]])
   (.lett ⟨.len, [vs 0], true⟩
   (.loop 0 [.c (I 0)]
    (.lett ⟨(.bin .lss), [vf 6, vf 5], true⟩
    (.ite (vf 7)
     (.lett ⟨(.inb 3), [vs 0, vf 6], true⟩
     (.lett ⟨(.get [(3, 0)]), [vs 0, vf 6], true⟩
     (.lett ⟨(.get [(3, 1)]), [vs 0, vf 6], true⟩
     (.lett ⟨(.get [(3, 2)]), [vs 0, vf 6], true⟩
     (.lett ⟨(.inb 3), [vs 1, vf 6], true⟩
     (.lett ⟨(.get [(3, 0)]), [vs 1, vf 6], true⟩
     (.lett ⟨(.get [(3, 1)]), [vs 1, vf 6], true⟩
     (.lett ⟨(.get [(3, 2)]), [vs 1, vf 6], true⟩
     (.lett ⟨(.eqAgg true [0, 2, 0]), [vf 9, vf 10, vf 11, vf 13, vf 14, vf 15], true⟩
     (.ite (vf 16)
      (.ret [[.c (.bool false)]])
      (.lett ⟨(.bin .add), [vf 6, .c (I 1)], true⟩
      (.again 0 [vf 17]))))))))))))
     (.ret [[.c (.bool true)]])))))))))
theorem c14 : compFn tab (hof [(19, [[true, true, true]]), (23, [[true, true, true]])]) a_impl_IsPrefix [[false], [false]] = some t14 := by kernel_rfl

/-- laws.eqStepS -/
def t15 : Tr :=
  (.lett ⟨.len, [vs 0], true⟩
  (.lett ⟨.len, [vs 1], true⟩
  (.lett ⟨(.bin .neq), [vf 2, vf 3], true⟩
  (.ite (vf 4)
   (.ret [[.c (.bool false)]])
   (.loop 0 [.c (I 0)]
    (.lett ⟨.len, [vs 0], true⟩
    (.lett ⟨(.bin .lss), [vf 5, vf 6], true⟩
    (.ite (vf 7)
     (.lett ⟨(.inb 3), [vs 0, vf 5], true⟩
     (.lett ⟨(.get [(3, 0)]), [vs 0, vf 5], true⟩
     (.lett ⟨(.get [(3, 1)]), [vs 0, vf 5], true⟩
     (.lett ⟨(.get [(3, 2)]), [vs 0, vf 5], true⟩
     (.lett ⟨(.inb 3), [vs 1, vf 5], true⟩
     (.lett ⟨(.get [(3, 0)]), [vs 1, vf 5], true⟩
     (.lett ⟨(.get [(3, 1)]), [vs 1, vf 5], true⟩
     (.lett ⟨(.get [(3, 2)]), [vs 1, vf 5], true⟩
     (.call 61 [[vf 9, vf 10, vf 11], [vf 13, vf 14, vf 15]] [[true]]
     (.lett ⟨(.un .not), [vf 16], true⟩
     (.ite (vf 17)
      (.ret [[.c (.bool false)]])
      (.lett ⟨(.bin .add), [vf 5, .c (I 1)], true⟩
      (.again 0 [vf 18])))))))))))))
     (.ret [[.c (.bool true)]])))))))))
theorem c15 : compFn tab (hof [(20, [[true, true, true]]), (24, [[true, true, true]]), (25, [[true]])]) a_laws_eqStepS [[false], [false]] = some t15 := by kernel_rfl

/-- laws.szStep -/
def t59 : Tr :=
  (.lett ⟨.lenS, [vf 1], true⟩
  (.lett ⟨(.bin .sub), [vf 3, vf 4], true⟩
  (.lett ⟨(.bin .lss), [vf 5, .c (I 0)], true⟩
  (.ite (vf 6)
   (.ret [[.c (I (-1))]])
   (.ret [[vf 5]])))))
theorem c59 : compFn tab (hof [(7, [[true]])]) a_laws_szStep [[true, true, true], [true]] = some t59 := by kernel_rfl

/-- laws.toStep -/
def t60 : Tr :=
  (.ret [[vf 0, vf 1, vf 2]])
theorem c60 : compFn tab (hof [(5, [[true]]), (8, [[true]]), (11, [[true]]), (13, [[true, true, true]])]) a_laws_toStep [[true, true, true]] = some t60 := by kernel_rfl

/-- laws.eqStep -/
def t61 : Tr :=
  (.lett ⟨(.bin .neq), [vf 0, vf 3], true⟩
  (.ite (vf 6)
   (.ret [[.c (.bool false)]])
   (.lett ⟨(.bin .neq), [vf 1, vf 4], true⟩
   (.ite (vf 7)
    (.ret [[.c (.bool false)]])
    (.lett ⟨(.bin .neq), [vf 2, vf 5], true⟩
    (.ite (vf 8)
     (.ret [[.c (.bool false)]])
     (.ret [[.c (.bool true)]])))))))
theorem c61 : compFn tab (hof [(6, [[true]]), (8, [[true]]), (11, [[true]]), (13, [[true]]), (16, [[true]]), (18, [[true]])]) a_laws_eqStep [[true, true, true], [true, true, true]] = some t61 := by kernel_rfl

/-- laws.FnExactIsPath -/
def t1 : Tr :=
  (.call 11 [[vs 0], [.c (I 1048576)]] [[true]]
  (.lett ⟨(.bin .lss), [vf 1, .c (I 0)], true⟩
  (.ite (vf 2)
   (.ret [[.c (.bool true)]])
   (.call 13 [[vs 0]] [[false]]
   (.call 16 [[vs 3]] [[true]]
   (.call 13 [[vs 0]] [[false]]
   (.call 17 [[vs 5]] [[true]]
   (.lett ⟨(.eqB true), [vf 6, vf 4], true⟩
   (.ite (vf 7)
    (.ret [[.c (.bool false)]])
    (.call 13 [[vs 0]] [[false]]
    (.call 15 [[vs 5], [vs 8]] [[true]]
    (.lett ⟨(.un .not), [vf 9], true⟩
    (.ite (vf 10)
     (.ret [[.c (.bool false)]])
     (.ret [[.c (.bool true)]]))))))))))))))
theorem c1 : compFn tab (hof [(9, [[true]]), (13, [[false]]), (14, [[true]]), (16, [[false]]), (18, [[true]]), (24, [[false]]), (25, [[true]])]) a_laws_FnExactIsPath [[false]] = some t1 := by kernel_rfl

/-- spec.IsPath -/
def t16 : Tr :=
  (.loop 0 [.c (I 0)]
   (.lett ⟨.len, [vs 0], true⟩
   (.lett ⟨(.bin .lss), [vf 1, vf 2], true⟩
   (.ite (vf 3)
    (.lett ⟨(.inb 3), [vs 0, vf 1], true⟩
    (.lett ⟨(.get [(3, 0)]), [vs 0, vf 1], true⟩
    (.lett ⟨(.get [(3, 1)]), [vs 0, vf 1], true⟩
    (.lett ⟨(.get [(3, 2)]), [vs 0, vf 1], true⟩
    (.lett ⟨(.bin .eql), [vf 5, .c (I 1)], true⟩
    (.ite (vf 8)
     (.call 62 [[vf 6]] [[true]]
     (.lett ⟨(.un .not), [vf 9], true⟩
     (.ite (vf 10)
      (.ret [[.c (.bool false)]])
      (.lett ⟨(.bin .neq), [vf 7, .c (I 0)], true⟩
      (.ite (vf 11)
       (.ret [[.c (.bool false)]])
       (.lett ⟨(.bin .add), [vf 1, .c (I 1)], true⟩
       (.again 0 [vf 12])))))))
     (.lett ⟨(.bin .eql), [vf 5, .c (I 2)], true⟩
     (.ite (vf 9)
      (.call 62 [[vf 6]] [[true]]
      (.lett ⟨(.un .not), [vf 10], true⟩
      (.ite (vf 11)
       (.ret [[.c (.bool false)]])
       (.lett ⟨(.bin .neq), [vf 7, .c (I 0)], true⟩
       (.ite (vf 12)
        (.ret [[.c (.bool false)]])
        (.lett ⟨(.bin .add), [vf 1, .c (I 1)], true⟩
        (.again 0 [vf 13])))))))
      (.lett ⟨(.bin .eql), [vf 5, .c (I 3)], true⟩
      (.ite (vf 10)
       (.lett ⟨(.bin .neq), [vf 6, .c (.str ⟨#[]⟩)], true⟩
       (.ite (vf 11)
        (.ret [[.c (.bool false)]])
        (.call 63 [[vf 7], [.c (I 0)], [.c (I 1000)]] [[true]]
        (.lett ⟨(.un .not), [vf 12], true⟩
        (.ite (vf 13)
         (.ret [[.c (.bool false)]])
         (.lett ⟨(.bin .add), [vf 1, .c (I 1)], true⟩
         (.again 0 [vf 14])))))))
       (.ret [[.c (.bool false)]])))))))))))
    (.lett ⟨.len, [vs 0], true⟩
    (.lett ⟨(.bin .leq), [vf 4, .c (I 12)], true⟩
    (.ret [[vf 5]])))))))
theorem c16 : compFn tab (hof [(14, [[true, true, true]]), (16, [[true]]), (21, [[true]]), (22, [[true]]), (26, [[true]]), (32, [[true]]), (36, [[true]]), (37, [[true]])]) a_spec_IsPath [[false]] = some t16 := by kernel_rfl

/-- impl.IsPath -/
def t17 : Tr :=
  (.lett ⟨.len, [vs 0], true⟩
  (.lett ⟨(.bin .gtr), [vf 1, .c (I 12)], true⟩
  (.ite (vf 2)
   (.ret [[.c (.bool false)]])
   (.lett ⟨.len, [vs 0], true⟩
   (.loop 0 [.c (I 0)]
    (.lett ⟨(.bin .lss), [vf 4, vf 3], true⟩
    (.ite (vf 5)
     (.lett ⟨(.inb 3), [vs 0, vf 4], true⟩
     (.lett ⟨(.get [(3, 0)]), [vs 0, vf 4], true⟩
     (.lett ⟨(.get [(3, 1)]), [vs 0, vf 4], true⟩
     (.lett ⟨(.get [(3, 2)]), [vs 0, vf 4], true⟩
     (.lett ⟨(.bin .eql), [vf 7, .c (I 1)], true⟩
     (.ite (vf 10)
      (.call 64 [[vf 8]] [[true]]
      (.lett ⟨(.un .not), [vf 11], true⟩
      (.ite (vf 12)
       (.ret [[.c (.bool false)]])
       (.lett ⟨(.bin .neq), [vf 9, .c (I 0)], true⟩
       (.ite (vf 13)
        (.ret [[.c (.bool false)]])
        (.lett ⟨(.bin .add), [vf 4, .c (I 1)], true⟩
        (.again 0 [vf 14])))))))
      (.lett ⟨(.bin .eql), [vf 7, .c (I 2)], true⟩
      (.ite (vf 11)
       (.call 64 [[vf 8]] [[true]]
       (.lett ⟨(.un .not), [vf 12], true⟩
       (.ite (vf 13)
        (.ret [[.c (.bool false)]])
        (.lett ⟨(.bin .neq), [vf 9, .c (I 0)], true⟩
        (.ite (vf 14)
         (.ret [[.c (.bool false)]])
         (.lett ⟨(.bin .add), [vf 4, .c (I 1)], true⟩
         (.again 0 [vf 15])))))))
       (.lett ⟨(.bin .eql), [vf 7, .c (I 3)], true⟩
       (.ite (vf 12)
        (.lett ⟨(.bin .neq), [vf 8, .c (.str ⟨#[]⟩)], true⟩
        (.ite (vf 13)
         (.ret [[.c (.bool false)]])
         (.lett ⟨(.bin .lss), [vf 9, .c (I 0)], true⟩
         (.ite (vf 14)
          (.ret [[.c (.bool false)]])
          (.lett ⟨(.bin .gtr), [vf 9, .c (I 1000)], true⟩
          (.ite (vf 15)
           (.ret [[.c (.bool false)]])
           (.lett ⟨(.bin .add), [vf 4, .c (I 1)], true⟩
           (.again 0 [vf 16]))))))))
        (.ret [[.c (.bool false)]])))))))))))
     (.ret [[.c (.bool true)]]))))))))
theorem c17 : compFn tab (hof [(13, [[true, true, true]]), (15, [[true]]), (20, [[true]]), (21, [[true]]), (25, [[true]]), (31, [[true]]), (35, [[true]]), (40, [[true]])]) a_impl_IsPath [[false]] = some t17 := by kernel_rfl

/-- spec.IsName -/
def t62 : Tr :=
  (.loop 0 [.c (I 0)]
   (.lett ⟨.lenS, [vf 0], true⟩
   (.lett ⟨(.bin .lss), [vf 1, vf 2], true⟩
   (.ite (vf 3)
    (.lett ⟨.ix, [vf 0, vf 1], true⟩
    (.lett ⟨(.bin .geq), [vf 4, .c (.int .u8 97)], true⟩
    (.ite (vf 5)
     (.lett ⟨.ix, [vf 0, vf 1], true⟩
     (.lett ⟨(.bin .leq), [vf 6, .c (.int .u8 122)], true⟩
     (.lett ⟨(.un .not), [vf 7], true⟩
     (.ite (vf 8)
      (.lett ⟨(.bin .eql), [vf 1, .c (I 0)], true⟩
      (.ite (vf 9)
       (.ret [[.c (.bool false)]])
       (.lett ⟨.ix, [vf 0, vf 1], true⟩
       (.lett ⟨(.bin .lss), [vf 10, .c (.int .u8 48)], true⟩
       (.ite (vf 11)
        (.ret [[.c (.bool false)]])
        (.lett ⟨.ix, [vf 0, vf 1], true⟩
        (.lett ⟨(.bin .gtr), [vf 12, .c (.int .u8 57)], true⟩
        (.ite (vf 13)
         (.ret [[.c (.bool false)]])
         (.lett ⟨(.bin .add), [vf 1, .c (I 1)], true⟩
         (.again 0 [vf 14]))))))))))
      (.lett ⟨(.bin .add), [vf 1, .c (I 1)], true⟩
      (.again 0 [vf 9]))))))
     (.lett ⟨(.bin .eql), [vf 1, .c (I 0)], true⟩
     (.ite (vf 6)
      (.ret [[.c (.bool false)]])
      (.lett ⟨.ix, [vf 0, vf 1], true⟩
      (.lett ⟨(.bin .lss), [vf 7, .c (.int .u8 48)], true⟩
      (.ite (vf 8)
       (.ret [[.c (.bool false)]])
       (.lett ⟨.ix, [vf 0, vf 1], true⟩
       (.lett ⟨(.bin .gtr), [vf 9, .c (.int .u8 57)], true⟩
       (.ite (vf 10)
        (.ret [[.c (.bool false)]])
        (.lett ⟨(.bin .add), [vf 1, .c (I 1)], true⟩
        (.again 0 [vf 11])))))))))))))
    (.lett ⟨.lenS, [vf 0], true⟩
    (.call 63 [[vf 4], [.c (I 1)], [.c (I 4)]] [[true]]
    (.ret [[vf 5]])))))))
theorem c62 : compFn tab (hof [(41, [[true]])]) a_spec_IsName [[true]] = some t62 := by kernel_rfl

/-- spec.l1In -/
def t63 : Tr :=
  (.lett ⟨(.bin .geq), [vf 0, vf 1], true⟩
  (.ite (vf 3)
   (.lett ⟨(.bin .leq), [vf 0, vf 2], true⟩
   (.ret [[vf 4]]))
   (.ret [[.c (.bool false)]])))
theorem c63 : compFn tab (hof []) a_spec_l1In [[true], [true], [true]] = some t63 := by kernel_rfl

/-- impl.IsName -/
def t64 : Tr :=
  (.lett ⟨.lenS, [vf 0], true⟩
  (.lett ⟨(.bin .eql), [vf 1, .c (I 0)], true⟩
  (.ite (vf 2)
   (.ret [[.c (.bool false)]])
   (.lett ⟨.lenS, [vf 0], true⟩
   (.lett ⟨(.bin .gtr), [vf 3, .c (I 4)], true⟩
   (.ite (vf 4)
    (.ret [[.c (.bool false)]])
    (.lett ⟨.lenS, [vf 0], true⟩
    (.loop 0 [.c (I 0)]
     (.lett ⟨(.bin .lss), [vf 6, vf 5], true⟩
     (.ite (vf 7)
      (.lett ⟨.ix, [vf 0, vf 6], true⟩
      (.lett ⟨(.bin .eql), [vf 6, .c (I 0)], true⟩
      (.call 95 [[vf 8], [vf 9]] [[true]]
      (.lett ⟨(.un .not), [vf 10], true⟩
      (.ite (vf 11)
       (.ret [[.c (.bool false)]])
       (.lett ⟨(.bin .add), [vf 6, .c (I 1)], true⟩
       (.again 0 [vf 12])))))))
      (.ret [[.c (.bool true)]])))))))))))
theorem c64 : compFn tab (hof [(22, [[true]])]) a_impl_IsName [[true]] = some t64 := by kernel_rfl

/-- impl.nameByte -/
def t95 : Tr :=
  (.lett ⟨(.bin .geq), [vf 0, .c (.int .u8 97)], true⟩
  (.ite (vf 2)
   (.lett ⟨(.bin .leq), [vf 0, .c (.int .u8 122)], true⟩
   (.ite (vf 3)
    (.ret [[.c (.bool true)]])
    (.lett ⟨(.un .not), [vf 1], true⟩
    (.ite (vf 4)
     (.lett ⟨(.bin .geq), [vf 0, .c (.int .u8 48)], true⟩
     (.ite (vf 5)
      (.lett ⟨(.bin .leq), [vf 0, .c (.int .u8 57)], true⟩
      (.ret [[vf 6]]))
      (.ret [[.c (.bool false)]])))
     (.ret [[.c (.bool false)]])))))
   (.lett ⟨(.un .not), [vf 1], true⟩
   (.ite (vf 3)
    (.lett ⟨(.bin .geq), [vf 0, .c (.int .u8 48)], true⟩
    (.ite (vf 4)
     (.lett ⟨(.bin .leq), [vf 0, .c (.int .u8 57)], true⟩
     (.ret [[vf 5]]))
     (.ret [[.c (.bool false)]])))
    (.ret [[.c (.bool false)]])))))
theorem c95 : compFn tab (hof []) a_impl_nameByte [[true], [true]] = some t95 := by kernel_rfl

/-- laws.FnExactAreDisjoint -/
def t2 : Tr :=
  (.call 18 [[vs 0], [.c (I 1048576)]] [[true]]
  (.lett ⟨(.bin .lss), [vf 1, .c (I 0)], true⟩
  (.ite (vf 2)
   (.ret [[.c (.bool true)]])
   (.call 20 [[vs 0]] [[false]]
   (.call 19 [[vs 3]] [[true]]
   (.call 20 [[vs 0]] [[false]]
   (.call 21 [[vs 5]] [[true]]
   (.lett ⟨(.eqB true), [vf 6, vf 4], true⟩
   (.ite (vf 7)
    (.ret [[.c (.bool false)]])
    (.call 20 [[vs 0]] [[false]]
    (.call 22 [[vs 5], [vs 8]] [[true]]
    (.lett ⟨(.un .not), [vf 9], true⟩
    (.ite (vf 10)
     (.ret [[.c (.bool false)]])
     (.ret [[.c (.bool true)]]))))))))))))))
theorem c2 : compFn tab (hof [(9, [[true]]), (13, [[false]]), (14, [[true]]), (16, [[false]]), (18, [[true]]), (24, [[false]]), (25, [[true]])]) a_laws_FnExactAreDisjoint [[false]] = some t2 := by kernel_rfl

/-- laws.szStepSS -/
def t18 : Tr :=
  (.lett ⟨.len, [vs 0], true⟩
  (.lett ⟨(.bin .sub), [vf 1, vf 2], true⟩
  (.lett ⟨(.bin .lss), [vf 3, .c (I 0)], true⟩
  (.ite (vf 4)
   (.ret [[.c (I (-1))]])
   (.loop 0 [vf 3, .c (I 0)]
    (.lett ⟨.len, [vs 0], true⟩
    (.lett ⟨(.bin .lss), [vf 6, vf 7], true⟩
    (.ite (vf 8)
     (.lett ⟨(.inb 1), [vs 0, vf 6], true⟩
     (.lett ⟨(.get [(1, 0)]), [vs 0, vf 6], false⟩
     (.call 11 [[vs 10], [vf 5]] [[true]]
     (.lett ⟨(.bin .lss), [vf 11, .c (I 0)], true⟩
     (.ite (vf 12)
      (.ret [[.c (I (-1))]])
      (.lett ⟨(.bin .add), [vf 6, .c (I 1)], true⟩
      (.again 0 [vf 11, vf 13])))))))
     (.ret [[vf 5]])))))))))
theorem c18 : compFn tab (hof [(21, [[false]]), (23, [[true]])]) a_laws_szStepSS [[false], [true]] = some t18 := by kernel_rfl

/-- laws.toStepSS -/
def t20 : Tr :=
  (.lett ⟨.len, [vs 0], true⟩
  (.lett ⟨(.make 1 [(Z 3)]), [vf 1], false⟩
  (.loop 0 [vs 2, .c (I 0)]
   (.lett ⟨.len, [vs 0], true⟩
   (.lett ⟨(.bin .lss), [vf 4, vf 5], true⟩
   (.ite (vf 6)
    (.lett ⟨(.inb 1), [vs 0, vf 4], true⟩
    (.lett ⟨(.get [(1, 0)]), [vs 0, vf 4], false⟩
    (.call 13 [[vs 8]] [[false]]
    (.lett ⟨(.inb 1), [vs 3, vf 4], true⟩
    (.lett ⟨(.set [(1, 0)]), [vs 3, vf 4, vs 9], false⟩
    (.lett ⟨(.bin .add), [vf 4, .c (I 1)], true⟩
    (.again 0 [vs 11, vf 12])))))))
    (.ret [[vs 3]])))))))
theorem c20 : compFn tab (hof [(19, [[false]]), (20, [[false]])]) a_laws_toStepSS [[false]] = some t20 := by kernel_rfl

/-- spec.AreDisjoint -/
def t19 : Tr :=
  (.loop 0 [.c (I 0)]
   (.lett ⟨.len, [vs 0], true⟩
   (.lett ⟨(.bin .lss), [vf 1, vf 2], true⟩
   (.ite (vf 3)
    (.loop 1 [.c (I 0)]
     (.lett ⟨.len, [vs 0], true⟩
     (.lett ⟨(.bin .lss), [vf 4, vf 5], true⟩
     (.ite (vf 6)
      (.lett ⟨(.bin .neq), [vf 1, vf 4], true⟩
      (.ite (vf 7)
       (.lett ⟨(.inb 1), [vs 0, vf 1], true⟩
       (.lett ⟨(.get [(1, 0)]), [vs 0, vf 1], false⟩
       (.lett ⟨(.inb 1), [vs 0, vf 4], true⟩
       (.lett ⟨(.get [(1, 0)]), [vs 0, vf 4], false⟩
       (.call 12 [[vs 9], [vs 11]] [[true]]
       (.ite (vf 12)
        (.ret [[.c (.bool false)]])
        (.lett ⟨(.bin .add), [vf 4, .c (I 1)], true⟩
        (.again 1 [vf 13]))))))))
       (.lett ⟨(.bin .add), [vf 4, .c (I 1)], true⟩
       (.again 1 [vf 8]))))
      (.lett ⟨(.bin .add), [vf 1, .c (I 1)], true⟩
      (.again 0 [vf 7]))))))
    (.ret [[.c (.bool true)]])))))
theorem c19 : compFn tab (hof [(24, [[false]]), (28, [[false]]), (29, [[true]])]) a_spec_AreDisjoint [[false]] = some t19 := by kernel_rfl

/-- impl.AreDisjoint -/
def t21 : Tr :=
  (.lett ⟨.len, [vs 0], true⟩
  (.loop 0 [.c (I 0)]
   (.lett ⟨(.bin .lss), [vf 2, vf 1], true⟩
   (.ite (vf 3)
    (.lett ⟨(.inb 1), [vs 0, vf 2], true⟩
    (.lett ⟨(.get [(1, 0)]), [vs 0, vf 2], false⟩
    (.lett ⟨.len, [vs 0], true⟩
    (.loop 1 [.c (I 0)]
     (.lett ⟨(.bin .lss), [vf 7, vf 6], true⟩
     (.ite (vf 8)
      (.lett ⟨(.inb 1), [vs 0, vf 7], true⟩
      (.lett ⟨(.get [(1, 0)]), [vs 0, vf 7], false⟩
      (.lett ⟨(.bin .neq), [vf 2, vf 7], true⟩
      (.ite (vf 11)
       (.call 14 [[vs 5], [vs 10]] [[true]]
       (.ite (vf 12)
        (.ret [[.c (.bool false)]])
        (.lett ⟨(.bin .add), [vf 7, .c (I 1)], true⟩
        (.again 1 [vf 13]))))
       (.lett ⟨(.bin .add), [vf 7, .c (I 1)], true⟩
       (.again 1 [vf 12]))))))
      (.lett ⟨(.bin .add), [vf 2, .c (I 1)], true⟩
      (.again 0 [vf 9]))))))))
    (.ret [[.c (.bool true)]])))))
theorem c21 : compFn tab (hof [(13, [[false]]), (20, [[false]]), (27, [[true]])]) a_impl_AreDisjoint [[false]] = some t21 := by kernel_rfl

/-- laws.eqStepSS -/
def t22 : Tr :=
  (.lett ⟨.len, [vs 0], true⟩
  (.lett ⟨.len, [vs 1], true⟩
  (.lett ⟨(.bin .neq), [vf 2, vf 3], true⟩
  (.ite (vf 4)
   (.ret [[.c (.bool false)]])
   (.loop 0 [.c (I 0)]
    (.lett ⟨.len, [vs 0], true⟩
    (.lett ⟨(.bin .lss), [vf 5, vf 6], true⟩
    (.ite (vf 7)
     (.lett ⟨(.inb 1), [vs 0, vf 5], true⟩
     (.lett ⟨(.get [(1, 0)]), [vs 0, vf 5], false⟩
     (.lett ⟨(.inb 1), [vs 1, vf 5], true⟩
     (.lett ⟨(.get [(1, 0)]), [vs 1, vf 5], false⟩
     (.call 15 [[vs 9], [vs 11]] [[true]]
     (.lett ⟨(.un .not), [vf 12], true⟩
     (.ite (vf 13)
      (.ret [[.c (.bool false)]])
      (.lett ⟨(.bin .add), [vf 5, .c (I 1)], true⟩
      (.again 0 [vf 14])))))))))
     (.ret [[.c (.bool true)]])))))))))
theorem c22 : compFn tab (hof [(20, [[false]]), (24, [[false]]), (25, [[true]])]) a_laws_eqStepSS [[false], [false]] = some t22 := by kernel_rfl

/-- laws.FnExactOverlap -/
def t3 : Tr :=
  (.call 18 [[vs 0], [.c (I 1048576)]] [[true]]
  (.lett ⟨(.bin .lss), [vf 2, .c (I 0)], true⟩
  (.ite (vf 3)
   (.ret [[.c (.bool true)]])
   (.call 18 [[vs 1], [vf 2]] [[true]]
   (.lett ⟨(.bin .lss), [vf 4, .c (I 0)], true⟩
   (.ite (vf 5)
    (.ret [[.c (.bool true)]])
    (.call 20 [[vs 0]] [[false]]
    (.call 20 [[vs 1]] [[false]]
    (.call 23 [[vs 6], [vs 7]] [[true]]
    (.call 20 [[vs 0]] [[false]]
    (.call 20 [[vs 1]] [[false]]
    (.call 24 [[vs 9], [vs 10]] [[true]]
    (.lett ⟨(.eqB true), [vf 11, vf 8], true⟩
    (.ite (vf 12)
     (.ret [[.c (.bool false)]])
     (.call 20 [[vs 0]] [[false]]
     (.call 22 [[vs 9], [vs 13]] [[true]]
     (.lett ⟨(.un .not), [vf 14], true⟩
     (.ite (vf 15)
      (.ret [[.c (.bool false)]])
      (.call 20 [[vs 1]] [[false]]
      (.call 22 [[vs 10], [vs 16]] [[true]]
      (.lett ⟨(.un .not), [vf 17], true⟩
      (.ite (vf 18)
       (.ret [[.c (.bool false)]])
       (.ret [[.c (.bool true)]])))))))))))))))))))))))
theorem c3 : compFn tab (hof [(12, [[true]]), (17, [[true]]), (21, [[false]]), (23, [[false]]), (24, [[true]]), (26, [[false]]), (28, [[false]]), (31, [[true]]), (37, [[false]]), (38, [[true]]), (42, [[false]]), (43, [[true]])]) a_laws_FnExactOverlap [[false], [false]] = some t3 := by kernel_rfl

/-- spec.Overlap -/
def t23 : Tr :=
  (.loop 0 [.c (I 0)]
   (.lett ⟨.len, [vs 0], true⟩
   (.lett ⟨(.bin .lss), [vf 2, vf 3], true⟩
   (.ite (vf 4)
    (.loop 1 [.c (I 0)]
     (.lett ⟨.len, [vs 1], true⟩
     (.lett ⟨(.bin .lss), [vf 5, vf 6], true⟩
     (.ite (vf 7)
      (.lett ⟨(.inb 1), [vs 0, vf 2], true⟩
      (.lett ⟨(.get [(1, 0)]), [vs 0, vf 2], false⟩
      (.lett ⟨(.inb 1), [vs 1, vf 5], true⟩
      (.lett ⟨(.get [(1, 0)]), [vs 1, vf 5], false⟩
      (.call 12 [[vs 9], [vs 11]] [[true]]
      (.ite (vf 12)
       (.ret [[.c (.bool true)]])
       (.lett ⟨(.inb 1), [vs 1, vf 5], true⟩
       (.lett ⟨(.get [(1, 0)]), [vs 1, vf 5], false⟩
       (.lett ⟨(.inb 1), [vs 0, vf 2], true⟩
       (.lett ⟨(.get [(1, 0)]), [vs 0, vf 2], false⟩
       (.call 12 [[vs 14], [vs 16]] [[true]]
       (.ite (vf 17)
        (.ret [[.c (.bool true)]])
        (.lett ⟨(.bin .add), [vf 5, .c (I 1)], true⟩
        (.again 1 [vf 18]))))))))))))))
      (.lett ⟨(.bin .add), [vf 2, .c (I 1)], true⟩
      (.again 0 [vf 8]))))))
    (.ret [[.c (.bool false)]])))))
theorem c23 : compFn tab (hof [(22, [[false]]), (26, [[false]]), (27, [[true]]), (32, [[false]]), (36, [[false]]), (37, [[true]])]) a_spec_Overlap [[false], [false]] = some t23 := by kernel_rfl

/-- impl.Overlap -/
def t24 : Tr :=
  (.lett ⟨.len, [vs 0], true⟩
  (.loop 0 [.c (I 0)]
   (.lett ⟨(.bin .lss), [vf 3, vf 2], true⟩
   (.ite (vf 4)
    (.lett ⟨(.inb 1), [vs 0, vf 3], true⟩
    (.lett ⟨(.get [(1, 0)]), [vs 0, vf 3], false⟩
    (.lett ⟨.len, [vs 1], true⟩
    (.loop 1 [.c (I 0)]
     (.lett ⟨(.bin .lss), [vf 8, vf 7], true⟩
     (.ite (vf 9)
      (.lett ⟨(.inb 1), [vs 1, vf 8], true⟩
      (.lett ⟨(.get [(1, 0)]), [vs 1, vf 8], false⟩
      (.call 14 [[vs 6], [vs 11]] [[true]]
      (.ite (vf 12)
       (.ret [[.c (.bool true)]])
       (.call 14 [[vs 11], [vs 6]] [[true]]
       (.ite (vf 13)
        (.ret [[.c (.bool true)]])
        (.lett ⟨(.bin .add), [vf 8, .c (I 1)], true⟩
        (.again 1 [vf 14]))))))))
      (.lett ⟨(.bin .add), [vf 3, .c (I 1)], true⟩
      (.again 0 [vf 10]))))))))
    (.ret [[.c (.bool false)]])))))
theorem c24 : compFn tab (hof [(14, [[false]]), (20, [[false]]), (23, [[true]]), (27, [[true]])]) a_impl_Overlap [[false], [false]] = some t24 := by kernel_rfl

end Go.Proofs.Ytdgmelniiclbnaa
