/- The functions of the claim, as decision trees. -/
import Derived.Test.YtdgmelniiclbnaaTab
import Derived.Test.YtdgmelniiclbnaaRl
set_option maxRecDepth 100000
namespace Go.Proofs.Ytdgmelniiclbnaa
open Go

/-- laws.FnExactIsPrefix -/
def t0 : Tr :=
  (.call 11 [[vs 0], [.c (I 1048576)]] [[true]]
  (.lett ⟨(.bin .lss), [vf 2, .c (I 0)], true⟩
  (.ite (vf 3)
   (.ret [[.c (.bool true)]])
   (.call 11 [[vs 1], [vf 2]] [[true]]
   (.lett ⟨(.bin .lss), [vf 4, .c (I 0)], true⟩
   (.ite (vf 5)
    (.ret [[.c (.bool true)]])
    (.call 13 [[vs 0]] [[false]]
    (.call 13 [[vs 1]] [[false]]
    (.call 12 [[vs 6], [vs 7]] [[true]]
    (.call 13 [[vs 0]] [[false]]
    (.call 13 [[vs 1]] [[false]]
    (.call 14 [[vs 9], [vs 10]] [[true]]
    (.lett ⟨(.eqB true), [vf 11, vf 8], true⟩
    (.ite (vf 12)
     (.ret [[.c (.bool false)]])
     (.call 13 [[vs 0]] [[false]]
     (.call 15 [[vs 9], [vs 13]] [[true]]
     (.lett ⟨(.un .not), [vf 14], true⟩
     (.ite (vf 15)
      (.ret [[.c (.bool false)]])
      (.call 13 [[vs 1]] [[false]]
      (.call 15 [[vs 10], [vs 16]] [[true]]
      (.lett ⟨(.un .not), [vf 17], true⟩
      (.ite (vf 18)
       (.ret [[.c (.bool false)]])
       (.ret [[.c (.bool true)]])))))))))))))))))))))))
theorem c0 : compFn tab (hof [(12, [[true]]), (17, [[true]]), (21, [[false]]), (23, [[false]]), (24, [[true]]), (26, [[false]]), (28, [[false]]), (31, [[true]]), (37, [[false]]), (38, [[true]]), (42, [[false]]), (43, [[true]])]) a_laws_FnExactIsPrefix [[false], [false]] = some t0 := by kernel_rfl

/-- laws.szStepS -/
def t11 : Tr :=
  (.lett ⟨.len, [vs 0], true⟩
  (.lett ⟨(.bin .sub), [vf 1, vf 2], true⟩
  (.lett ⟨(.bin .lss), [vf 3, .c (I 0)], true⟩
  (.ite (vf 4)
   (.ret [[.c (I (-1))]])
   (.loop 0 [vf 3, .c (I 0)]
    (.lett ⟨.len, [vs 0], true⟩
    (.lett ⟨(.bin .lss), [vf 6, vf 7], true⟩
    (.ite (vf 8)
     (.lett ⟨(.inb 3), [vs 0, vf 6], true⟩
     (.lett ⟨(.get [(3, 0)]), [vs 0, vf 6], true⟩
     (.lett ⟨(.get [(3, 1)]), [vs 0, vf 6], true⟩
     (.lett ⟨(.get [(3, 2)]), [vs 0, vf 6], true⟩
     (.call 59 [[vf 10, vf 11, vf 12], [vf 5]] [[true]]
     (.lett ⟨(.bin .lss), [vf 13, .c (I 0)], true⟩
     (.ite (vf 14)
      (.ret [[.c (I (-1))]])
      (.lett ⟨(.bin .add), [vf 6, .c (I 1)], true⟩
      (.again 0 [vf 13, vf 15])))))))))
     (.ret [[vf 5]])))))))))
theorem c11 : compFn tab (hof [(21, [[true, true, true]]), (23, [[true]])]) a_laws_szStepS [[false], [true]] = some t11 := by kernel_rfl

/-- laws.toStepS -/
def t13 : Tr :=
  (.lett ⟨.len, [vs 0], true⟩
  (.lett ⟨(.make 3 [(I 0), (.str ⟨#[]⟩), (I 0)]), [vf 1], false⟩
  (.loop 0 [vs 2, .c (I 0)]
   (.lett ⟨.len, [vs 0], true⟩
   (.lett ⟨(.bin .lss), [vf 4, vf 5], true⟩
   (.ite (vf 6)
    (.lett ⟨(.inb 3), [vs 0, vf 4], true⟩
    (.lett ⟨(.get [(3, 0)]), [vs 0, vf 4], true⟩
    (.lett ⟨(.get [(3, 1)]), [vs 0, vf 4], true⟩
    (.lett ⟨(.get [(3, 2)]), [vs 0, vf 4], true⟩
    (.call 60 [[vf 8, vf 9, vf 10]] [[true, true, true]]
    (.lett ⟨(.inb 3), [vs 3, vf 4], true⟩
    (.lett ⟨(.set [(3, 0)]), [vs 3, vf 4, vf 11, vf 12, vf 13], false⟩
    (.lett ⟨(.bin .add), [vf 4, .c (I 1)], true⟩
    (.again 0 [vs 15, vf 16])))))))))
    (.ret [[vs 3]])))))))
theorem c13 : compFn tab (hof [(19, [[true, true, true]]), (20, [[true, true, true]])]) a_laws_toStepS [[false]] = some t13 := by kernel_rfl

/-- spec.IsPrefix -/
def t12 : Tr :=
  (.lett ⟨.len, [vs 0], true⟩
  (.lett ⟨.len, [vs 1], true⟩
  (.lett ⟨(.bin .gtr), [vf 2, vf 3], true⟩
  (.ite (vf 4)
   (.ret [[.c (.bool false)]])
   (.loop 0 [.c (I 0)]
    (.lett ⟨.len, [vs 0], true⟩
    (.lett ⟨(.bin .lss), [vf 5, vf 6], true⟩
    (.ite (vf 7)
     (.lett ⟨(.inb 3), [vs 0, vf 5], true⟩
     (.lett ⟨(.get [(3, 0)]), [vs 0, vf 5], true⟩
     (.lett ⟨(.get [(3, 1)]), [vs 0, vf 5], true⟩
     (.lett ⟨(.get [(3, 2)]), [vs 0, vf 5], true⟩
     (.lett ⟨(.inb 3), [vs 1, vf 5], true⟩
     (.lett ⟨(.get [(3, 0)]), [vs 1, vf 5], true⟩
     (.lett ⟨(.get [(3, 1)]), [vs 1, vf 5], true⟩
     (.lett ⟨(.get [(3, 2)]), [vs 1, vf 5], true⟩
     (.lett ⟨(.eqAgg true [0, 2, 0]), [vf 9, vf 10, vf 11, vf 13, vf 14, vf 15], true⟩
     (.ite (vf 16)
      (.ret [[.c (.bool false)]])
      (.lett ⟨(.bin .add), [vf 5, .c (I 1)], true⟩
      (.again 0 [vf 17]))))))))))))
     (.ret [[.c (.bool true)]])))))))))
theorem c12 : compFn tab (hof [(20, [[true, true, true]]), (24, [[true, true, true]])]) a_spec_IsPrefix [[false], [false]] = some t12 := by kernel_rfl

/-- impl.IsPrefix -/
def t14 : Tr :=
  (.lett ⟨.len, [vs 0], true⟩
  (.lett ⟨.len, [vs 1], true⟩
  (.lett ⟨(.bin .gtr), [vf 2, vf 3], true⟩
  (.ite (vf 4)
   (.ret [[.c (.bool false)]])
   (.lett ⟨.len, [vs 0], true⟩
   (.loop 0 [.c (I 0)]
    (.lett ⟨(.bin .lss), [vf 6, vf 5], true⟩
    (.ite (vf 7)
     (.lett ⟨(.inb 3), [vs 0, vf 6], true⟩
     (.lett ⟨(.get [(3, 0)]), [vs 0, vf 6], true⟩
     (.lett ⟨(.get [(3, 1)]), [vs 0, vf 6], true⟩
     (.lett ⟨(.get [(3, 2)]), [vs 0, vf 6], true⟩
     (.lett ⟨(.inb 3), [vs 1, vf 6], true⟩
     (.lett ⟨(.get [(3, 0)]), [vs 1, vf 6], true⟩
     (.lett ⟨(.get [(3, 1)]), [vs 1, vf 6], true⟩
     (.lett ⟨(.get [(3, 2)]), [vs 1, vf 6], true⟩
     (.lett ⟨(.eqAgg true [0, 2, 0]), [vf 9, vf 10, vf 11, vf 13, vf 14, vf 15], true⟩
     (.ite (vf 16)
      (.ret [[.c (.bool false)]])
      (.lett ⟨(.bin .add), [vf 6, .c (I 1)], true⟩
      (.again 0 [vf 17]))))))))))))
     (.ret [[.c (.bool true)]])))))))))
theorem c14 : compFn tab (hof [(19, [[true, true, true]]), (23, [[true, true, true]])]) a_impl_IsPrefix [[false], [false]] = some t14 := by kernel_rfl

/-- laws.eqStepS -/
def t15 : Tr :=
  (.lett ⟨.len, [vs 0], true⟩
  (.lett ⟨.len, [vs 1], true⟩
  (.lett ⟨(.bin .neq), [vf 2, vf 3], true⟩
  (.ite (vf 4)
   (.ret [[.c (.bool false)]])
   (.loop 0 [.c (I 0)]
    (.lett ⟨.len, [vs 0], true⟩
    (.lett ⟨(.bin .lss), [vf 5, vf 6], true⟩
    (.ite (vf 7)
     (.lett ⟨(.inb 3), [vs 0, vf 5], true⟩
     (.lett ⟨(.get [(3, 0)]), [vs 0, vf 5], true⟩
     (.lett ⟨(.get [(3, 1)]), [vs 0, vf 5], true⟩
     (.lett ⟨(.get [(3, 2)]), [vs 0, vf 5], true⟩
     (.lett ⟨(.inb 3), [vs 1, vf 5], true⟩
     (.lett ⟨(.get [(3, 0)]), [vs 1, vf 5], true⟩
     (.lett ⟨(.get [(3, 1)]), [vs 1, vf 5], true⟩
     (.lett ⟨(.get [(3, 2)]), [vs 1, vf 5], true⟩
     (.call 61 [[vf 9, vf 10, vf 11], [vf 13, vf 14, vf 15]] [[true]]
     (.lett ⟨(.un .not), [vf 16], true⟩
     (.ite (vf 17)
      (.ret [[.c (.bool false)]])
      (.lett ⟨(.bin .add), [vf 5, .c (I 1)], true⟩
      (.again 0 [vf 18])))))))))))))
     (.ret [[.c (.bool true)]])))))))))
theorem c15 : compFn tab (hof [(20, [[true, true, true]]), (24, [[true, true, true]]), (25, [[true]])]) a_laws_eqStepS [[false], [false]] = some t15 := by kernel_rfl

/-- laws.szStep -/
def t59 : Tr :=
  (.lett ⟨.lenS, [vf 1], true⟩
  (.lett ⟨(.bin .sub), [vf 3, vf 4], true⟩
  (.lett ⟨(.bin .lss), [vf 5, .c (I 0)], true⟩
  (.ite (vf 6)
   (.ret [[.c (I (-1))]])
   (.ret [[vf 5]])))))
theorem c59 : compFn tab (hof [(7, [[true]])]) a_laws_szStep [[true, true, true], [true]] = some t59 := by kernel_rfl

/-- laws.toStep -/
def t60 : Tr :=
  (.ret [[vf 0, vf 1, vf 2]])
theorem c60 : compFn tab (hof [(5, [[true]]), (8, [[true]]), (11, [[true]]), (13, [[true, true, true]])]) a_laws_toStep [[true, true, true]] = some t60 := by kernel_rfl

/-- laws.eqStep -/
def t61 : Tr :=
  (.lett ⟨(.bin .neq), [vf 0, vf 3], true⟩
  (.ite (vf 6)
   (.ret [[.c (.bool false)]])
   (.lett ⟨(.bin .neq), [vf 1, vf 4], true⟩
   (.ite (vf 7)
    (.ret [[.c (.bool false)]])
    (.lett ⟨(.bin .neq), [vf 2, vf 5], true⟩
    (.ite (vf 8)
     (.ret [[.c (.bool false)]])
     (.ret [[.c (.bool true)]])))))))
theorem c61 : compFn tab (hof [(6, [[true]]), (8, [[true]]), (11, [[true]]), (13, [[true]]), (16, [[true]]), (18, [[true]])]) a_laws_eqStep [[true, true, true], [true, true, true]] = some t61 := by kernel_rfl

end Go.Proofs.Ytdgmelniiclbnaa
