/- Step equations of some functions. -/
import Derived.Test.YtfkkigbbejhfbaaTab
namespace Go.Proofs.Ytfkkigbbejhfbaa
open Go Idl
set_option maxRecDepth 100000
set_option linter.unusedVariables false
def live24 : Live := fun q a b => match q, a, b with
  | _, _, _ => none
noncomputable def Awake13.f (C : Nat → CallF) (k : Nat) := ibody (EE.on sig24) (C k) k live24 sig24 Try.f24 []
theorem Awake13.f_eq (C : Nat → CallF) (k : Nat) : Awake13.f C k =
  FrontBuild.q (C k) ([(⟨#[97, 98]⟩ : ByteArray), (⟨#[97, 98, 99]⟩ : ByteArray)]) 2 (fun l1 n2 =>
    CurNew.q (C k) l1 (fun l3 n4 n5 =>
      FrontOpen.q (C k) l3 n4 n5 (fun l6 l7 n8 n9 =>
        cond (n2 == 0)
          (cond ((bytesStr l1).toList == (⟨#[2, 2, 1, 3, 6, 2, 97, 98, 2, 1, 99]⟩ : ByteArray).toList)
            (DictLen.s (C k) l6 (fun n10 =>
              cond (n10 == 2)
                (DictAt.s (C k) l6 1 (fun s11 =>
                  cond (s11.toList == (⟨#[97, 98, 99]⟩ : ByteArray).toList)
                    (CurEnd.q (C k) l7 n8 n9 (fun n12 l13 n14 n15 =>
                      cond (n12 == 0)
                        (DictAll.q (C k) l6 (fun l16 =>
                          some (.bool ((l16.length : Int) == 2), [])))
                        (some (.bool false, []))))
                    (some (.bool false, []))))
                (some (.bool false, []))))
            (some (.bool false, [])))
          (some (.bool false, []))))) := by kernel_rfl
def live4 : Live := fun q a b => match q, a, b with
  | _, _, _ => none
noncomputable def FrontBuilds.f (C : Nat → CallF) (k : Nat) (x0 : List ByteArray) (x1 : Int) := ibody (EE.on sig4) (C k) k live4 sig4 Try.f4 [.sl false (.strs x0), .int .i64 x1]
theorem FrontBuilds.f_eq (C : Nat → CallF) (k : Nat) (x0 : List ByteArray) (x1 : Int) : FrontBuilds.f C k x0 x1 =
  Awake13.s (C k) (fun b1 =>
    cond (!b1)
      (Awake13.s (C k) (fun b2 =>
        some (.bool b2, [])))
      (Few13.s (C k) x0 (fun b3 =>
        cond (!b3)
          (Awake13.s (C k) (fun b4 =>
            some (.bool b4, [])))
          (FrontBuild.q (C k) x0 x1 (fun l5 n6 =>
            RefRight.s (C k) x0 x1 (fun b7 =>
              cond (!b7)
                (cond (n6 == 1)
                  (some (.bool ((l5.length : Int) == 0), []))
                  (some (.bool false, [])))
                (cond (n6 == 0)
                  (RefBuild.q (C k) x0 x1 (fun l8 =>
                    SameB.s (C k) l5 l8 (fun b9 =>
                      some (.bool b9, []))))
                  (some (.bool false, []))))))))) := by kernel_rfl
def live5 : Live := fun q a b => match q, a, b with
  | 4, some 12, some 13 => some [(0, false), (4, false), (5, false), (6, false), (7, false)]
  | 9, some 11, some 13 => some []
  | _, _, _ => none
noncomputable def FrontOpens.f (C : Nat → CallF) (k : Nat) (x0 : List Int) := ibody (EE.on sig5) (C k) k live5 sig5 Try.f5 [.sl false (.ints .u8 x0)]
noncomputable def FrontOpens.l0 (C : Nat → CallF) (k j : Nat) (a0 : List Int) (a1 : List ByteArray) (a2 : Int) (a3 : Int) (a4 : List ByteArray) := cutL (EE.on sig5) (C k) k live5 (some 12) [1, 1, 1, 1, 1, 1, 1, 1, 0, 1, 4] [] (bodyOf Try.f5) (kfin (EE.on sig5) sig5 Try.f5) j (mkSt 67 [(0, .sl false (.ints .u8 a0)), (4, .pv [.sl false (.strs a1)] 0), (5, .int .i64 a2), (6, .rs 0), (7, .int .i64 a3)] [.sl true (.strs a4)] [])
noncomputable def FrontOpens.l1 (C : Nat → CallF) (k j : Nat) (a0 : List Int) (a1 : List ByteArray) (a2 : Int) (a3 : Int) (a4 : List ByteArray) := cutL (EE.on sig5) (C k) k live5 (some 12) [1, 1, 1, 1, 1, 1, 1, 1, 0, 1, 4] [] (bodyOf Try.f5) (kfin (EE.on sig5) sig5 Try.f5) j (mkSt 67 [(0, .sl false (.ints .u8 a0)), (4, .pv [.sl false (.strs a1)] 0), (5, .int .i64 a2), (6, .rs 0), (7, .int .i64 a3)] [.sl false (.strs a4)] [])
noncomputable def FrontOpens.e0 (C : Nat → CallF) (k : Nat) := cutE (EE.on sig5) (C k) k live5 (some 16) [1, 1, 1, 1, 1, 1, 1, 1, 1] [] (bodyOf Try.f5) (kfin (EE.on sig5) sig5 Try.f5) (mkSt 67 [] [] [])
theorem FrontOpens.f_eq (C : Nat → CallF) (k : Nat) (x0 : List Int) : FrontOpens.f C k x0 =
  Awake13.s (C k) (fun b1 =>
    cond (!b1)
      (Awake13.s (C k) (fun b2 =>
        some (.bool b2, [])))
      (cond (decide ((x0.length : Int) > 3000))
        (Awake13.s (C k) (fun b3 =>
          some (.bool b3, [])))
        (CurNew.q (C k) x0 (fun l4 n5 n6 =>
          FrontOpen.q (C k) l4 n5 n6 (fun l7 l8 n9 n10 =>
            CurGood.q (C k) l8 n9 n10 (fun b11 l12 n13 n14 =>
              cond (!b11)
                (DictLen.s (C k) l7 (fun n15 =>
                  cond (n15 == 0)
                    (DictAll.q (C k) l7 (fun l16 =>
                      cond ((l16.length : Int) == 0)
                        (CurEnd.q (C k) l12 n13 n14 (fun n17 l18 n19 n20 =>
                          some (.bool (n17 != 0), [])))
                        (some (.bool false, []))))
                    (some (.bool false, []))))
                (CurLeft.q (C k) l12 n13 n14 (fun n21 l22 n23 n24 =>
                  DictAll.q (C k) l7 (fun l25 =>
                    FrontOpens.l0 C k k x0 l7 (IntKind.i64.wrap ((x0.length : Int) - n21)) 1 l25))))))))) := by kernel_rfl
theorem FrontOpens.l0_eq (C : Nat → CallF) (k j : Nat) (a0 : List Int) (a1 : List ByteArray) (a2 : Int) (a3 : Int) (a4 : List ByteArray) : FrontOpens.l0 C k (j + 1) a0 a1 a2 a3 a4 =
  cond (decide (a3 ≤ 64))
    (RefRight.s (C k) a4 a3 (fun b26 =>
      cond b26
        (RefBuild.q (C k) a4 a3 (fun l27 =>
          if (0 : Int) ≤ 0 ∧ (0 : Int) ≤ a2 ∧ a2 ≤ (a0.length : Int) ∧ a2 = a2 ∧ 1 = 1 then
            SameB.s (C k) l27 ((a0.take a2.toNat).drop (0 : Int).toNat) (fun b28 =>
              cond b28
                (DictLen.s (C k) a1 (fun n29 =>
                  some (.bool (n29 == (a4.length : Int)), [])))
                (FrontOpens.l1 C k j a0 a1 a2 (IntKind.i64.wrap (a3 + 1)) a4))
          else none))
        (FrontOpens.l0 C k j a0 a1 a2 (IntKind.i64.wrap (a3 + 1)) a4)))
    (FrontOpens.e0 C k) := (stop_eq (some 12) _ _ _).trans (by kernel_rfl)
theorem FrontOpens.l1_eq (C : Nat → CallF) (k j : Nat) (a0 : List Int) (a1 : List ByteArray) (a2 : Int) (a3 : Int) (a4 : List ByteArray) : FrontOpens.l1 C k (j + 1) a0 a1 a2 a3 a4 =
  cond (decide (a3 ≤ 64))
    (RefRight.s (C k) a4 a3 (fun b30 =>
      cond b30
        (RefBuild.q (C k) a4 a3 (fun l31 =>
          if (0 : Int) ≤ 0 ∧ (0 : Int) ≤ a2 ∧ a2 ≤ (a0.length : Int) ∧ a2 = a2 ∧ 1 = 1 then
            SameB.s (C k) l31 ((a0.take a2.toNat).drop (0 : Int).toNat) (fun b32 =>
              cond b32
                (DictLen.s (C k) a1 (fun n33 =>
                  some (.bool (n33 == (a4.length : Int)), [])))
                (FrontOpens.l1 C k j a0 a1 a2 (IntKind.i64.wrap (a3 + 1)) a4))
          else none))
        (FrontOpens.l1 C k j a0 a1 a2 (IntKind.i64.wrap (a3 + 1)) a4)))
    (FrontOpens.e0 C k) := (stop_eq (some 12) _ _ _).trans (by kernel_rfl)
theorem FrontOpens.e0_eq (C : Nat → CallF) (k : Nat) : FrontOpens.e0 C k =
  some (.bool false, []) := (stop_eq (some 16) _ _ _).trans (by kernel_rfl)
def live6 : Live := fun q a b => match q, a, b with
  | 4, some 14, some 15 => some [(5, false), (7, false), (10, false), (11, false), (12, false)]
  | 9, some 13, some 15 => some [(5, false), (7, false), (10, false), (11, false)]
  | _, _, _ => none
noncomputable def FrontBack.f (C : Nat → CallF) (k : Nat) (x0 : List ByteArray) (x1 : Int) := ibody (EE.on sig6) (C k) k live6 sig6 Try.f6 [.sl false (.strs x0), .int .u8 x1]
noncomputable def FrontBack.l0 (C : Nat → CallF) (k j : Nat) (a0 : List ByteArray) (a1 : List ByteArray) (a2 : Int) (a3 : Int) (a4 : List Int) := cutL (EE.on sig6) (C k) k live6 (some 14) [1, 1, 1, 1, 1, 1, 1, 1, 1, 1, 0, 1, 4] [] (bodyOf Try.f6) (kfin (EE.on sig6) sig6 Try.f6) j (mkSt 106 [(5, .sl false (.strs a0)), (7, .rs 0), (10, .pv [.sl false (.strs a1)] 0), (11, .int .i64 a2), (12, .int .i64 a3)] [.sl false (.ints .u8 a4)] [])
noncomputable def FrontBack.e0 (C : Nat → CallF) (k : Nat) (a0 : List ByteArray) (a1 : List ByteArray) (a2 : Int) (a3 : List Int) := cutE (EE.on sig6) (C k) k live6 (some 19) [1, 1, 1, 1, 1, 1, 1, 1, 1, 1, 1] [] (bodyOf Try.f6) (kfin (EE.on sig6) sig6 Try.f6) (mkSt 106 [(5, .sl false (.strs a0)), (7, .rs 0), (10, .pv [.sl false (.strs a1)] 0), (11, .int .i64 a2)] [.sl false (.ints .u8 a3)] [])
theorem FrontBack.f_eq (C : Nat → CallF) (k : Nat) (x0 : List ByteArray) (x1 : Int) : FrontBack.f C k x0 x1 =
  Awake13.s (C k) (fun b1 =>
    cond (!b1)
      (Awake13.s (C k) (fun b2 =>
        some (.bool b2, [])))
      (Few13.s (C k) x0 (fun b3 =>
        cond (!b3)
          (Awake13.s (C k) (fun b4 =>
            some (.bool b4, [])))
          (RefSorted.s (C k) x0 (fun l5 =>
            FrontBuild.q (C k) l5 (IntKind.i64.wrap (1 + (IntKind.i64.wrap (x1.tmod 64)))) (fun l6 n7 =>
              cond (n7 != 0)
                (RefRight.s (C k) l5 (IntKind.i64.wrap (1 + (IntKind.i64.wrap (x1.tmod 64)))) (fun b8 =>
                  some (.bool (!b8), [])))
                (CurNew.q (C k) l6 (fun l9 n10 n11 =>
                  FrontOpen.q (C k) l9 n10 n11 (fun l12 l13 n14 n15 =>
                    CurEnd.q (C k) l13 n14 n15 (fun n16 l17 n18 n19 =>
                      cond (n16 != 0)
                        (some (.bool false, []))
                        (DictLen.s (C k) l12 (fun n20 =>
                          cond (n20 != (l5.length : Int))
                            (some (.bool false, []))
                            (DictAll.q (C k) l12 (fun l21 =>
                              SameS.s (C k) l21 l5 (fun b22 =>
                                cond (!b22)
                                  (some (.bool false, []))
                                  (FrontBack.l0 C k k l5 l12 0 0 l6)))))))))))))))) := by kernel_rfl
theorem FrontBack.l0_eq (C : Nat → CallF) (k j : Nat) (a0 : List ByteArray) (a1 : List ByteArray) (a2 : Int) (a3 : Int) (a4 : List Int) : FrontBack.l0 C k (j + 1) a0 a1 a2 a3 a4 =
  cond (decide (a3 < (a0.length : Int)))
    (if (0 : Int) ≤ a3 then
      (match a0[a3.toNat]? with
        | some x23 => DictAt.s (C k) a1 a3 (fun s24 =>
          if (0 : Int) ≤ a3 then
            (match a0[a3.toNat]? with
              | some x25 => cond (!(s24.toList == x25.toList))
                (some (.bool false, []))
                (FrontBack.l0 C k j a0 a1 (IntKind.i64.wrap (a2 + (x23.size : Int))) (IntKind.i64.wrap (a3 + 1)) a4)
              | none => none)
          else none)
        | none => none)
    else none)
    (FrontBack.e0 C k a0 a1 a2 a4) := (stop_eq (some 14) _ _ _).trans (by kernel_rfl)
theorem FrontBack.e0_eq (C : Nat → CallF) (k : Nat) (a0 : List ByteArray) (a1 : List ByteArray) (a2 : Int) (a3 : List Int) : FrontBack.e0 C k a0 a1 a2 a3 =
  DictAt.s (C k) a1 (-1) (fun s26 =>
    cond (s26.toList == (⟨#[]⟩ : ByteArray).toList)
      (DictAt.s (C k) a1 (a0.length : Int) (fun s27 =>
        cond (s27.toList == (⟨#[]⟩ : ByteArray).toList)
          (some (.bool (decide ((a3.length : Int) ≤ (IntKind.i64.wrap ((IntKind.i64.wrap (a2 + (IntKind.i64.wrap (10 * (a0.length : Int))))) + 10)))), []))
          (some (.bool false, []))))
      (some (.bool false, []))) := (stop_eq (some 19) _ _ _).trans (by kernel_rfl)
def live7 : Live := fun q a b => match q, a, b with
  | _, _, _ => none
noncomputable def FrontCut.f (C : Nat → CallF) (k : Nat) (x0 : List ByteArray) (x1 : Int) (x2 : Int) := ibody (EE.on sig7) (C k) k live7 sig7 Try.f7 [.sl false (.strs x0), .int .u8 x1, .int .u16 x2]
theorem FrontCut.f_eq (C : Nat → CallF) (k : Nat) (x0 : List ByteArray) (x1 : Int) (x2 : Int) : FrontCut.f C k x0 x1 x2 =
  Awake13.s (C k) (fun b1 =>
    cond (!b1)
      (Awake13.s (C k) (fun b2 =>
        some (.bool b2, [])))
      (Few13.s (C k) x0 (fun b3 =>
        cond (!b3)
          (Awake13.s (C k) (fun b4 =>
            some (.bool b4, [])))
          (RefSorted.s (C k) x0 (fun l5 =>
            FrontBuild.q (C k) l5 (IntKind.i64.wrap (1 + (IntKind.i64.wrap (x1.tmod 64)))) (fun l6 n7 =>
              cond (n7 != 0)
                (some (.bool true, []))
                (if (l6.length : Int) = 0 then none else
                  if (0 : Int) ≤ 0 ∧ (0 : Int) ≤ ((IntKind.i64.wrap x2).tmod (l6.length : Int)) ∧ ((IntKind.i64.wrap x2).tmod (l6.length : Int)) ≤ (l6.length : Int) ∧ ((IntKind.i64.wrap x2).tmod (l6.length : Int)) = ((IntKind.i64.wrap x2).tmod (l6.length : Int)) ∧ 1 = 1 then
                    CurNew.q (C k) ((l6.take ((IntKind.i64.wrap x2).tmod (l6.length : Int)).toNat).drop (0 : Int).toNat) (fun l8 n9 n10 =>
                      FrontOpen.q (C k) l8 n9 n10 (fun l11 l12 n13 n14 =>
                        CurGood.q (C k) l12 n13 n14 (fun b15 l16 n17 n18 =>
                          cond (!b15)
                            (DictLen.s (C k) l11 (fun n19 =>
                              some (.bool (n19 == 0), [])))
                            (some (.bool false, [])))))
                  else none))))))) := by kernel_rfl
def live8 : Live := fun q a b => match q, a, b with
  | 4, some 13, some 14 => some [(3, false), (4, false), (7, false), (8, false), (9, false)]
  | 9, some 12, some 14 => some [(3, false), (4, false), (7, false)]
  | _, _, _ => none
noncomputable def FrontKeeps.f (C : Nat → CallF) (k : Nat) (x0 : List ByteArray) := ibody (EE.on sig8) (C k) k live8 sig8 Try.f8 [.sl false (.strs x0)]
noncomputable def FrontKeeps.l0 (C : Nat → CallF) (k j : Nat) (a0 : List ByteArray) (a1 : List ByteArray) (a2 : Int) (a3 : List ByteArray) (a4 : List ByteArray) := cutL (EE.on sig8) (C k) k live8 (some 13) [1, 1, 1, 1, 1, 1, 1, 1, 1, 0, 1, 4] [] (bodyOf Try.f8) (kfin (EE.on sig8) sig8 Try.f8) j (mkSt 55 [(3, .sl false (.strs a0)), (4, .rs 0), (7, .pv [.sl false (.strs a1)] 0), (8, .rs 1), (9, .int .i64 a2)] [.sl true (.strs a3), .sl true (.strs a4)] [])
noncomputable def FrontKeeps.e0 (C : Nat → CallF) (k : Nat) (a0 : List ByteArray) (a1 : List ByteArray) (a2 : List ByteArray) := cutE (EE.on sig8) (C k) k live8 (some 16) [1, 1, 1, 1, 1, 1, 1, 1, 1, 1] [] (bodyOf Try.f8) (kfin (EE.on sig8) sig8 Try.f8) (mkSt 55 [(3, .sl false (.strs a0)), (4, .rs 0), (7, .pv [.sl false (.strs a1)] 0)] [.sl true (.strs a2)] [])
theorem FrontKeeps.f_eq (C : Nat → CallF) (k : Nat) (x0 : List ByteArray) : FrontKeeps.f C k x0 =
  Awake13.s (C k) (fun b1 =>
    cond (!b1)
      (Awake13.s (C k) (fun b2 =>
        some (.bool b2, [])))
      (Few13.s (C k) x0 (fun b3 =>
        cond (!b3)
          (Awake13.s (C k) (fun b4 =>
            some (.bool b4, [])))
          (RefSorted.s (C k) x0 (fun l5 =>
            if ([] : List ByteArray).length + l5.length ≤ bound ∧ 1 = 1 then
              FrontBuild.q (C k) l5 3 (fun l6 n7 =>
                cond (n7 != 0)
                  (some (.bool true, []))
                  (CurNew.q (C k) l6 (fun l8 n9 n10 =>
                    FrontOpen.q (C k) l8 n9 n10 (fun l11 l12 n13 n14 =>
                      DictAll.q (C k) l11 (fun l15 =>
                        FrontKeeps.l0 C k k l5 l11 0 (([] : List ByteArray) ++ l5) l15)))))
            else none))))) := by kernel_rfl
theorem FrontKeeps.l0_eq (C : Nat → CallF) (k j : Nat) (a0 : List ByteArray) (a1 : List ByteArray) (a2 : Int) (a3 : List ByteArray) (a4 : List ByteArray) : FrontKeeps.l0 C k (j + 1) a0 a1 a2 a3 a4 =
  cond (decide (a2 < (a4.length : Int)))
    (if (0 : Int) ≤ a2 then
      if a2 < (a4.length : Int) ∧ 1 = 1 then
        FrontKeeps.l0 C k j a0 a1 (IntKind.i64.wrap (a2 + 1)) a3 (a4.set a2.toNat (⟨#[63]⟩ : ByteArray))
      else none
    else none)
    (FrontKeeps.e0 C k a0 a1 a3) := (stop_eq (some 13) _ _ _).trans (by kernel_rfl)
theorem FrontKeeps.e0_eq (C : Nat → CallF) (k : Nat) (a0 : List ByteArray) (a1 : List ByteArray) (a2 : List ByteArray) : FrontKeeps.e0 C k a0 a1 a2 =
  SameS.s (C k) a0 a2 (fun b16 =>
    cond b16
      (DictAll.q (C k) a1 (fun l17 =>
        SameS.s (C k) l17 a2 (fun b18 =>
          some (.bool b18, []))))
      (some (.bool false, []))) := (stop_eq (some 16) _ _ _).trans (by kernel_rfl)
/-- the table's equations for these functions -/
structure EqFnF (C : Nat → CallF) : Prop where
  Awake13 : ∀ (k : Nat), C (k + 1) 24 [] = Awake13.f C k
  FrontBuilds : ∀ (k : Nat) (x0 : List ByteArray) (x1 : Int), C (k + 1) 4 [.sl false (.strs x0), .int .i64 x1] = FrontBuilds.f C k x0 x1
  FrontOpens : ∀ (k : Nat) (x0 : List Int), C (k + 1) 5 [.sl false (.ints .u8 x0)] = FrontOpens.f C k x0
  FrontBack : ∀ (k : Nat) (x0 : List ByteArray) (x1 : Int), C (k + 1) 6 [.sl false (.strs x0), .int .u8 x1] = FrontBack.f C k x0 x1
  FrontCut : ∀ (k : Nat) (x0 : List ByteArray) (x1 : Int) (x2 : Int), C (k + 1) 7 [.sl false (.strs x0), .int .u8 x1, .int .u16 x2] = FrontCut.f C k x0 x1 x2
  FrontKeeps : ∀ (k : Nat) (x0 : List ByteArray), C (k + 1) 8 [.sl false (.strs x0)] = FrontKeeps.f C k x0
end Go.Proofs.Ytfkkigbbejhfbaa
