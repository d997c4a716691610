/- Step equations of some functions. -/
import Derived.Test.YtfkkigbbejhfbaaTab
namespace Go.Proofs.Ytfkkigbbejhfbaa
open Go Idl
set_option maxRecDepth 100000
set_option linter.unusedVariables false
def live25 : Live := fun q a b => match q, a, b with
  | _, _, _ => none
noncomputable def Few13.f (C : Nat → CallF) (k : Nat) (x0 : List ByteArray) := ibody (EE.on sig25) (C k) k live25 sig25 Try.f25 [.sl false (.strs x0)]
theorem Few13.f_eq (C : Nat → CallF) (k : Nat) (x0 : List ByteArray) : Few13.f C k x0 =
  cond (decide ((x0.length : Int) ≤ 150))
    (Few07.s (C k) x0 (fun b1 =>
      some (.bool b1, [])))
    (some (.bool false, [])) := by kernel_rfl
def live68 : Live := fun q a b => match q, a, b with
  | 4, some 3, some 4 => some [(0, false), (3, false), (4, false)]
  | 9, some 2, some 4 => some [(0, false), (3, false)]
  | _, _, _ => none
noncomputable def Few07.f (C : Nat → CallF) (k : Nat) (x0 : List ByteArray) := ibody (EE.on sig68) (C k) k live68 sig68 Try.f68 [.sl false (.strs x0)]
noncomputable def Few07.l0 (C : Nat → CallF) (k j : Nat) (a0 : List ByteArray) (a1 : Int) (a2 : Int) := cutL (EE.on sig68) (C k) k live68 (some 3) [1, 1, 0, 1, 4] [] (bodyOf Try.f68) (kfin (EE.on sig68) sig68 Try.f68) j (mkSt 35 [(0, .sl false (.strs a0)), (3, .int .i64 a1), (4, .int .i64 a2)] [] [])
noncomputable def Few07.e0 (C : Nat → CallF) (k : Nat) (a0 : List ByteArray) (a1 : Int) := cutE (EE.on sig68) (C k) k live68 (some 8) [1, 1, 1] [] (bodyOf Try.f68) (kfin (EE.on sig68) sig68 Try.f68) (mkSt 35 [(0, .sl false (.strs a0)), (3, .int .i64 a1)] [] [])
theorem Few07.f_eq (C : Nat → CallF) (k : Nat) (x0 : List ByteArray) : Few07.f C k x0 =
  Few07.l0 C k k x0 0 0 := by kernel_rfl
theorem Few07.l0_eq (C : Nat → CallF) (k j : Nat) (a0 : List ByteArray) (a1 : Int) (a2 : Int) : Few07.l0 C k (j + 1) a0 a1 a2 =
  cond (decide (a2 < (a0.length : Int)))
    (cond (decide (a2 < 400))
      (if (0 : Int) ≤ a2 then
        (match a0[a2.toNat]? with
          | some x1 => cond (decide ((x1.size : Int) > 5000))
            (some (.bool false, []))
            (if (0 : Int) ≤ a2 then
              (match a0[a2.toNat]? with
                | some x2 => Few07.l0 C k j a0 (IntKind.i64.wrap (a1 + (x2.size : Int))) (IntKind.i64.wrap (a2 + 1))
                | none => none)
            else none)
          | none => none)
      else none)
      (Few07.e0 C k a0 a1))
    (Few07.e0 C k a0 a1) := (stop_eq (some 3) _ _ _).trans (by kernel_rfl)
theorem Few07.e0_eq (C : Nat → CallF) (k : Nat) (a0 : List ByteArray) (a1 : Int) : Few07.e0 C k a0 a1 =
  cond (decide ((a0.length : Int) ≤ 300))
    (some (.bool (decide (a1 ≤ 300000)), []))
    (some (.bool false, [])) := (stop_eq (some 8) _ _ _).trans (by kernel_rfl)
def live27 : Live := fun q a b => match q, a, b with
  | 4, some 4, some 5 => some [(0, false), (5, false)]
  | 9, some 3, some 5 => some []
  | _, _, _ => none
noncomputable def RefRight.f (C : Nat → CallF) (k : Nat) (x0 : List ByteArray) (x1 : Int) := ibody (EE.on sig27) (C k) k live27 sig27 Try.f27 [.sl false (.strs x0), .int .i64 x1]
noncomputable def RefRight.l0 (C : Nat → CallF) (k j : Nat) (a0 : List ByteArray) (a1 : Int) := cutL (EE.on sig27) (C k) k live27 (some 4) [1, 1, 0, 1, 4] [] (bodyOf Try.f27) (kfin (EE.on sig27) sig27 Try.f27) j (mkSt 46 [(0, .sl false (.strs a0)), (5, .int .i64 a1)] [] [])
noncomputable def RefRight.e0 (C : Nat → CallF) (k : Nat) := cutE (EE.on sig27) (C k) k live27 (some 8) [1, 1, 1] [] (bodyOf Try.f27) (kfin (EE.on sig27) sig27 Try.f27) (mkSt 46 [] [] [])
theorem RefRight.f_eq (C : Nat → CallF) (k : Nat) (x0 : List ByteArray) (x1 : Int) : RefRight.f C k x0 x1 =
  cond (decide (x1 < 1))
    (some (.bool false, []))
    (cond (decide (x1 > 64))
      (some (.bool false, []))
      (cond (decide ((x0.length : Int) > 4096))
        (some (.bool false, []))
        (RefRight.l0 C k k x0 0))) := by kernel_rfl
theorem RefRight.l0_eq (C : Nat → CallF) (k j : Nat) (a0 : List ByteArray) (a1 : Int) : RefRight.l0 C k (j + 1) a0 a1 =
  cond (decide (a1 < (a0.length : Int)))
    (if (0 : Int) ≤ a1 then
      (match a0[a1.toNat]? with
        | some x1 => cond (decide ((x1.size : Int) > 4096))
          (some (.bool false, []))
          (cond (decide (a1 > 0))
            (if (0 : Int) ≤ (IntKind.i64.wrap (a1 - 1)) then
              (match a0[(IntKind.i64.wrap (a1 - 1)).toNat]? with
                | some x2 => if (0 : Int) ≤ a1 then
                  (match a0[a1.toNat]? with
                    | some x3 => RefCompare.s (C k) x2 x3 (fun n4 =>
                      cond (decide (n4 ≥ 0))
                        (some (.bool false, []))
                        (RefRight.l0 C k j a0 (IntKind.i64.wrap (a1 + 1))))
                    | none => none)
                else none
                | none => none)
            else none)
            (RefRight.l0 C k j a0 (IntKind.i64.wrap (a1 + 1))))
        | none => none)
    else none)
    (RefRight.e0 C k) := (stop_eq (some 4) _ _ _).trans (by kernel_rfl)
theorem RefRight.e0_eq (C : Nat → CallF) (k : Nat) : RefRight.e0 C k =
  some (.bool true, []) := (stop_eq (some 8) _ _ _).trans (by kernel_rfl)
def live28 : Live := fun q a b => match q, a, b with
  | _, _, _ => none
noncomputable def SameB.f (C : Nat → CallF) (k : Nat) (x0 : List Int) (x1 : List Int) := ibody (EE.on sig28) (C k) k live28 sig28 Try.f28 [.sl false (.ints .u8 x0), .sl false (.ints .u8 x1)]
theorem SameB.f_eq (C : Nat → CallF) (k : Nat) (x0 : List Int) (x1 : List Int) : SameB.f C k x0 x1 =
  some (.bool ((bytesStr x0).toList == (bytesStr x1).toList), []) := by kernel_rfl
def live29 : Live := fun q a b => match q, a, b with
  | 2, some 10, some 11 => some [(0, false), (1, false), (5, false), (6, false), (7, false), (9, false)]
  | 2, some 6, some 15 => some [(0, false), (1, false), (5, false), (6, false), (7, false)]
  | 4, some 10, some 11 => some [(0, false), (1, false), (5, false), (6, false), (7, false), (9, false)]
  | 4, some 4, some 5 => some [(0, false), (1, false), (5, false), (6, false), (7, false)]
  | 9, some 3, some 5 => some [(0, false), (1, false), (5, false), (6, false)]
  | 9, some 8, some 12 => some [(0, false), (1, false), (5, false), (6, false), (7, false), (8, false), (9, false)]
  | _, _, _ => none
noncomputable def RefBuild.f (C : Nat → CallF) (k : Nat) (x0 : List ByteArray) (x1 : Int) := ibody (EE.on sig29) (C k) k live29 sig29 Try.f29 [.sl false (.strs x0), .int .i64 x1]
noncomputable def RefBuild.l0 (C : Nat → CallF) (k j : Nat) (a0 : List ByteArray) (a1 : Int) (a2 : Int) (a3 : List Int) (a4 : List Int) := cutL (EE.on sig29) (C k) k live29 (some 4) [1, 1, 1, 0, 1, 4] [] (bodyOf Try.f29) (kfin (EE.on sig29) sig29 Try.f29) j (mkSt 99 [(0, .sl false (.strs a0)), (1, .int .i64 a1), (5, .rs 0), (6, .rs 1), (7, .int .i64 a2)] [.sl true (.ints .i64 a3), .sl true (.ints .u8 a4)] [])
noncomputable def RefBuild.e0 (C : Nat → CallF) (k j0 : Nat) (a0 : List ByteArray) (a1 : Int) (a2 : Int) (a3 : Int) (a4 : List Int) (a5 : List Int) (a6 : List Int) := cutE (EE.on sig29) (C k) k live29 (some 13) [1, 1, 1, 0, 1, 4, 5, 1, 0, 4, 1, 1, 1] [j0] (bodyOf Try.f29) (kfin (EE.on sig29) sig29 Try.f29) (mkSt 99 [(0, .sl false (.strs a0)), (1, .int .i64 a1), (5, .rs 0), (6, .rs 1), (7, .int .i64 a2), (8, .rs 2), (9, .int .i64 a3)] [.sl true (.ints .i64 a4), .sl true (.ints .u8 a5), .sl true (.ints .u8 a6)] [])
noncomputable def RefBuild.l1 (C : Nat → CallF) (k j j0 : Nat) (a0 : List ByteArray) (a1 : Int) (a2 : Int) (a3 : Int) (a4 : List Int) (a5 : List Int) := cutL (EE.on sig29) (C k) k live29 (some 10) [1, 1, 1, 0, 1, 4, 5, 1, 0, 4, 1, 1, 0, 1, 3, 0, 4] [j0] (bodyOf Try.f29) (kfin (EE.on sig29) sig29 Try.f29) j (mkSt 99 [(0, .sl false (.strs a0)), (1, .int .i64 a1), (5, .rs 0), (6, .rs 1), (7, .int .i64 a2), (9, .int .i64 a3)] [.sl true (.ints .i64 a4), .sl true (.ints .u8 a5)] [])
noncomputable def RefBuild.e1 (C : Nat → CallF) (k : Nat) (a0 : List ByteArray) (a1 : Int) (a2 : List Int) (a3 : List Int) := cutE (EE.on sig29) (C k) k live29 (some 16) [1, 1, 1, 1] [] (bodyOf Try.f29) (kfin (EE.on sig29) sig29 Try.f29) (mkSt 99 [(0, .sl false (.strs a0)), (1, .int .i64 a1), (5, .rs 0), (6, .rs 1)] [.sl true (.ints .i64 a2), .sl true (.ints .u8 a3)] [])
noncomputable def RefBuild.e2 (C : Nat → CallF) (k j0 : Nat) (a0 : List ByteArray) (a1 : Int) (a2 : Int) (a3 : List Int) (a4 : List Int) := cutE (EE.on sig29) (C k) k live29 (some 5) [1, 1, 1, 0, 1, 4, 5, 1, 1] [j0] (bodyOf Try.f29) (kfin (EE.on sig29) sig29 Try.f29) (mkSt 99 [(0, .sl false (.strs a0)), (1, .int .i64 a1), (5, .rs 0), (6, .rs 1), (7, .int .i64 a2)] [.sl true (.ints .i64 a3), .sl true (.ints .u8 a4)] [])
noncomputable def RefBuild.e3 (C : Nat → CallF) (k j0 : Nat) (a0 : List ByteArray) (a1 : Int) (a2 : Int) (a3 : Int) (a4 : List Int) (a5 : List Int) := cutE (EE.on sig29) (C k) k live29 (some 12) [1, 1, 1, 0, 1, 4, 5, 1, 0, 4, 1, 1, 0, 1, 3, 1] [j0] (bodyOf Try.f29) (kfin (EE.on sig29) sig29 Try.f29) (mkSt 99 [(0, .sl false (.strs a0)), (1, .int .i64 a1), (5, .rs 0), (6, .rs 1), (7, .int .i64 a2), (9, .int .i64 a3)] [.sl true (.ints .i64 a4), .sl true (.ints .u8 a5)] [])
theorem RefBuild.f_eq (C : Nat → CallF) (k : Nat) (x0 : List ByteArray) (x1 : Int) : RefBuild.f C k x0 x1 =
  RefBuild.l0 C k k x0 x1 0 ([] : List Int) ([] : List Int) := by kernel_rfl
theorem RefBuild.l0_eq (C : Nat → CallF) (k j : Nat) (a0 : List ByteArray) (a1 : Int) (a2 : Int) (a3 : List Int) (a4 : List Int) : RefBuild.l0 C k (j + 1) a0 a1 a2 a3 a4 =
  cond (decide (a2 < (a0.length : Int)))
    (if a1 = 0 then none else
      cond ((a2.tmod a1) == 0)
        (if a3.length + [0].length ≤ bound ∧ 1 = 1 then
          RefBuild.e0 C k j a0 a1 a2 0 (a3 ++ [0]) a4 ([] : List Int)
        else none)
        (RefBuild.l1 C k k j a0 a1 a2 0 a3 a4))
    (RefBuild.e1 C k a0 a1 a3 a4) := (stop_eq (some 4) _ _ _).trans (by kernel_rfl)
theorem RefBuild.e0_eq (C : Nat → CallF) (k j0 : Nat) (a0 : List ByteArray) (a1 : Int) (a2 : Int) (a3 : Int) (a4 : List Int) (a5 : List Int) (a6 : List Int) : RefBuild.e0 C k j0 a0 a1 a2 a3 a4 a5 a6 =
  if (0 : Int) ≤ a2 then
    (match a0[a2.toNat]? with
      | some x1 => if (0 : Int) ≤ a3 ∧ a3 ≤ (x1.size : Int) ∧ (x1.size : Int) ≤ (x1.size : Int) then
        RefText1.q (C k) (x1.extract a3.toNat (x1.size : Int).toNat) (fun l2 =>
          if a6.length + l2.length ≤ bound ∧ 1 = 1 then
            if (0 : Int) ≤ (IntKind.i64.wrap ((a4.length : Int) - 1)) then
              if (IntKind.i64.wrap ((a4.length : Int) - 1)) < (a4.length : Int) ∧ 1 = 1 then
                (match a4[(IntKind.i64.wrap ((a4.length : Int) - 1)).toNat]? with
                  | some x3 => if (0 : Int) ≤ (IntKind.i64.wrap ((a4.length : Int) - 1)) then
                    if (IntKind.i64.wrap ((a4.length : Int) - 1)) < (a4.length : Int) ∧ 1 = 1 then
                      if a5.length + (a6 ++ l2).length ≤ bound ∧ 1 = 1 then
                        RefBuild.e2 C k j0 a0 a1 a2 (a4.set ((IntKind.i64.wrap ((a4.length : Int) - 1)).toNat) (IntKind.i64.wrap (x3 + ((a6 ++ l2).length : Int)))) (a5 ++ (a6 ++ l2))
                      else none
                    else none
                  else none
                  | none => none)
              else none
            else none
          else none)
      else none
      | none => none)
  else none := (stop_eq (some 13) _ _ _).trans (by kernel_rfl)
theorem RefBuild.l1_eq (C : Nat → CallF) (k j j0 : Nat) (a0 : List ByteArray) (a1 : Int) (a2 : Int) (a3 : Int) (a4 : List Int) (a5 : List Int) : RefBuild.l1 C k (j + 1) j0 a0 a1 a2 a3 a4 a5 =
  if (0 : Int) ≤ (IntKind.i64.wrap (a2 - 1)) then
    (match a0[(IntKind.i64.wrap (a2 - 1)).toNat]? with
      | some x4 => cond (decide (a3 < (x4.size : Int)))
        (if (0 : Int) ≤ a2 then
          (match a0[a2.toNat]? with
            | some x5 => cond (decide (a3 < (x5.size : Int)))
              (if (0 : Int) ≤ (IntKind.i64.wrap (a2 - 1)) then
                (match a0[(IntKind.i64.wrap (a2 - 1)).toNat]? with
                  | some x6 => if (0 : Int) ≤ a3 then
                    (match x6.data.toList[a3.toNat]? with
                      | some b7 => if (0 : Int) ≤ a2 then
                        (match a0[a2.toNat]? with
                          | some x8 => if (0 : Int) ≤ a3 then
                            (match x8.data.toList[a3.toNat]? with
                              | some b9 => cond ((b7.toNat : Int) == (b9.toNat : Int))
                                (RefBuild.l1 C k j j0 a0 a1 a2 (IntKind.i64.wrap (a3 + 1)) a4 a5)
                                (RefBuild.e3 C k j0 a0 a1 a2 a3 a4 a5)
                              | none => none)
                          else none
                          | none => none)
                      else none
                      | none => none)
                  else none
                  | none => none)
              else none)
              (RefBuild.e3 C k j0 a0 a1 a2 a3 a4 a5)
            | none => none)
        else none)
        (RefBuild.e3 C k j0 a0 a1 a2 a3 a4 a5)
      | none => none)
  else none := (stop_eq (some 10) _ _ _).trans (by kernel_rfl)
theorem RefBuild.e1_eq (C : Nat → CallF) (k : Nat) (a0 : List ByteArray) (a1 : Int) (a2 : List Int) (a3 : List Int) : RefBuild.e1 C k a0 a1 a2 a3 =
  RefPut1.q (C k) (a0.length : Int) (fun l10 =>
    RefPut1.q (C k) a1 (fun l11 =>
      if l10.length + l11.length ≤ bound ∧ 1 = 1 then
        RefWrite3.q (C k) a2 (fun l12 =>
          if (l10 ++ l11).length + l12.length ≤ bound ∧ 1 = 1 then
            if ((l10 ++ l11) ++ l12).length + a3.length ≤ bound ∧ 1 = 1 then
              some (.sl true (.ints .u8 (((l10 ++ l11) ++ l12) ++ a3)), [])
            else none
          else none)
      else none)) := (stop_eq (some 16) _ _ _).trans (by kernel_rfl)
theorem RefBuild.e2_eq (C : Nat → CallF) (k j0 : Nat) (a0 : List ByteArray) (a1 : Int) (a2 : Int) (a3 : List Int) (a4 : List Int) : RefBuild.e2 C k j0 a0 a1 a2 a3 a4 =
  RefBuild.l0 C k j0 a0 a1 (IntKind.i64.wrap (a2 + 1)) a3 a4 := (stop_eq (some 5) _ _ _).trans (by kernel_rfl)
theorem RefBuild.e3_eq (C : Nat → CallF) (k j0 : Nat) (a0 : List ByteArray) (a1 : Int) (a2 : Int) (a3 : Int) (a4 : List Int) (a5 : List Int) : RefBuild.e3 C k j0 a0 a1 a2 a3 a4 a5 =
  RefPut1.q (C k) a3 (fun l13 =>
    RefBuild.e0 C k j0 a0 a1 a2 a3 a4 a5 l13) := (stop_eq (some 12) _ _ _).trans (by kernel_rfl)
def live35 : Live := fun q a b => match q, a, b with
  | 2, some 5, some 9 => some [(0, false), (3, true), (4, false)]
  | 2, some 6, some 7 => some [(0, false), (3, true), (4, false), (5, false)]
  | 4, some 3, some 4 => some [(0, false), (3, true), (4, false)]
  | 4, some 6, some 7 => some [(0, false), (3, true), (4, false), (5, false)]
  | 9, some 2, some 4 => some [(3, true)]
  | _, _, _ => none
noncomputable def RefSorted.f (C : Nat → CallF) (k : Nat) (x0 : List ByteArray) := ibody (EE.on sig35) (C k) k live35 sig35 Try.f35 [.sl false (.strs x0)]
noncomputable def RefSorted.l0 (C : Nat → CallF) (k j : Nat) (a0 : List ByteArray) (a1 : List ByteArray) (a2 : Int) := cutL (EE.on sig35) (C k) k live35 (some 3) [1, 1, 0, 1, 4] [] (bodyOf Try.f35) (kfin (EE.on sig35) sig35 Try.f35) j (mkSt 61 [(0, .sl false (.strs a0)), (3, .sl false (.strs a1)), (4, .int .i64 a2)] [] [])
noncomputable def RefSorted.l1 (C : Nat → CallF) (k j j0 : Nat) (a0 : List ByteArray) (a1 : List ByteArray) (a2 : Int) (a3 : Int) := cutL (EE.on sig35) (C k) k live35 (some 6) [1, 1, 0, 1, 4, 5, 1, 0, 4, 1, 0, 4] [j0] (bodyOf Try.f35) (kfin (EE.on sig35) sig35 Try.f35) j (mkSt 61 [(0, .sl false (.strs a0)), (3, .sl false (.strs a1)), (4, .int .i64 a2), (5, .int .i64 a3)] [] [])
noncomputable def RefSorted.e0 (C : Nat → CallF) (k : Nat) (a0 : List ByteArray) := cutE (EE.on sig35) (C k) k live35 (some 10) [1, 1, 1] [] (bodyOf Try.f35) (kfin (EE.on sig35) sig35 Try.f35) (mkSt 61 [(3, .sl false (.strs a0))] [] [])
noncomputable def RefSorted.e1 (C : Nat → CallF) (k j0 : Nat) (a0 : List ByteArray) (a1 : List ByteArray) (a2 : Int) (a3 : Int) := cutE (EE.on sig35) (C k) k live35 (some 8) [1, 1, 0, 1, 4, 5, 1, 0, 4, 1, 1] [j0] (bodyOf Try.f35) (kfin (EE.on sig35) sig35 Try.f35) (mkSt 61 [(0, .sl false (.strs a0)), (3, .sl false (.strs a1)), (4, .int .i64 a2), (5, .int .i64 a3)] [] [])
noncomputable def RefSorted.e2 (C : Nat → CallF) (k j0 : Nat) (a0 : List ByteArray) (a1 : List ByteArray) (a2 : Int) := cutE (EE.on sig35) (C k) k live35 (some 4) [1, 1, 0, 1, 4, 5, 1, 1] [j0] (bodyOf Try.f35) (kfin (EE.on sig35) sig35 Try.f35) (mkSt 61 [(0, .sl false (.strs a0)), (3, .sl false (.strs a1)), (4, .int .i64 a2)] [] [])
theorem RefSorted.f_eq (C : Nat → CallF) (k : Nat) (x0 : List ByteArray) : RefSorted.f C k x0 =
  RefSorted.l0 C k k x0 ([] : List ByteArray) 0 := by kernel_rfl
theorem RefSorted.l0_eq (C : Nat → CallF) (k j : Nat) (a0 : List ByteArray) (a1 : List ByteArray) (a2 : Int) : RefSorted.l0 C k (j + 1) a0 a1 a2 =
  cond (decide (a2 < (a0.length : Int)))
    (RefSorted.l1 C k k j a0 a1 a2 0)
    (RefSorted.e0 C k a1) := (stop_eq (some 3) _ _ _).trans (by kernel_rfl)
theorem RefSorted.l1_eq (C : Nat → CallF) (k j j0 : Nat) (a0 : List ByteArray) (a1 : List ByteArray) (a2 : Int) (a3 : Int) : RefSorted.l1 C k (j + 1) j0 a0 a1 a2 a3 =
  cond (decide (a3 < (a1.length : Int)))
    (if (0 : Int) ≤ a3 then
      (match a1[a3.toNat]? with
        | some x1 => if (0 : Int) ≤ a2 then
          (match a0[a2.toNat]? with
            | some x2 => RefCompare.s (C k) x1 x2 (fun n3 =>
              cond (decide (n3 < 0))
                (RefSorted.l1 C k j j0 a0 a1 a2 (IntKind.i64.wrap (a3 + 1)))
                (RefSorted.e1 C k j0 a0 a1 a2 a3))
            | none => none)
        else none
        | none => none)
    else none)
    (RefSorted.e1 C k j0 a0 a1 a2 a3) := (stop_eq (some 6) _ _ _).trans (by kernel_rfl)
theorem RefSorted.e0_eq (C : Nat → CallF) (k : Nat) (a0 : List ByteArray) : RefSorted.e0 C k a0 =
  some (.sl false (.strs a0), []) := (stop_eq (some 10) _ _ _).trans (by kernel_rfl)
theorem RefSorted.e1_eq (C : Nat → CallF) (k j0 : Nat) (a0 : List ByteArray) (a1 : List ByteArray) (a2 : Int) (a3 : Int) : RefSorted.e1 C k j0 a0 a1 a2 a3 =
  cond (decide (a3 < (a1.length : Int)))
    (if (0 : Int) ≤ a3 then
      (match a1[a3.toNat]? with
        | some x4 => if (0 : Int) ≤ a2 then
          (match a0[a2.toNat]? with
            | some x5 => cond (x4.toList == x5.toList)
              (RefSorted.e2 C k j0 a0 a1 a2)
              (if (0 : Int) ≤ 0 ∧ (0 : Int) ≤ a3 ∧ a3 ≤ (a1.length : Int) ∧ a3 = a3 ∧ 1 = 1 then
                if ([] : List ByteArray).length + ((a1.take a3.toNat).drop (0 : Int).toNat).length ≤ bound ∧ 1 = 1 then
                  if (0 : Int) ≤ a2 then
                    (match a0[a2.toNat]? with
                      | some x6 => if (([] : List ByteArray) ++ ((a1.take a3.toNat).drop (0 : Int).toNat)).length + [x6].length ≤ bound ∧ 1 = 1 then
                        if (0 : Int) ≤ a3 ∧ a3 ≤ (a1.length : Int) ∧ (a1.length : Int) ≤ (a1.length : Int) ∧ (a1.length : Int) = (a1.length : Int) ∧ 1 = 1 then
                          if ((([] : List ByteArray) ++ ((a1.take a3.toNat).drop (0 : Int).toNat)) ++ [x6]).length + ((a1.take (a1.length : Int).toNat).drop a3.toNat).length ≤ bound ∧ 1 = 1 then
                            RefSorted.e2 C k j0 a0 (((([] : List ByteArray) ++ ((a1.take a3.toNat).drop (0 : Int).toNat)) ++ [x6]) ++ ((a1.take (a1.length : Int).toNat).drop a3.toNat)) a2
                          else none
                        else none
                      else none
                      | none => none)
                  else none
                else none
              else none)
            | none => none)
        else none
        | none => none)
    else none)
    (if (0 : Int) ≤ 0 ∧ (0 : Int) ≤ a3 ∧ a3 ≤ (a1.length : Int) ∧ a3 = a3 ∧ 1 = 1 then
      if ([] : List ByteArray).length + ((a1.take a3.toNat).drop (0 : Int).toNat).length ≤ bound ∧ 1 = 1 then
        if (0 : Int) ≤ a2 then
          (match a0[a2.toNat]? with
            | some x7 => if (([] : List ByteArray) ++ ((a1.take a3.toNat).drop (0 : Int).toNat)).length + [x7].length ≤ bound ∧ 1 = 1 then
              if (0 : Int) ≤ a3 ∧ a3 ≤ (a1.length : Int) ∧ (a1.length : Int) ≤ (a1.length : Int) ∧ (a1.length : Int) = (a1.length : Int) ∧ 1 = 1 then
                if ((([] : List ByteArray) ++ ((a1.take a3.toNat).drop (0 : Int).toNat)) ++ [x7]).length + ((a1.take (a1.length : Int).toNat).drop a3.toNat).length ≤ bound ∧ 1 = 1 then
                  RefSorted.e2 C k j0 a0 (((([] : List ByteArray) ++ ((a1.take a3.toNat).drop (0 : Int).toNat)) ++ [x7]) ++ ((a1.take (a1.length : Int).toNat).drop a3.toNat)) a2
                else none
              else none
            else none
            | none => none)
        else none
      else none
    else none) := (stop_eq (some 8) _ _ _).trans (by kernel_rfl)
theorem RefSorted.e2_eq (C : Nat → CallF) (k j0 : Nat) (a0 : List ByteArray) (a1 : List ByteArray) (a2 : Int) : RefSorted.e2 C k j0 a0 a1 a2 =
  RefSorted.l0 C k j0 a0 a1 (IntKind.i64.wrap (a2 + 1)) := (stop_eq (some 4) _ _ _).trans (by kernel_rfl)
def live36 : Live := fun q a b => match q, a, b with
  | 4, some 4, some 5 => some [(0, false), (1, false), (5, false)]
  | 9, some 3, some 5 => some []
  | _, _, _ => none
noncomputable def SameS.f (C : Nat → CallF) (k : Nat) (x0 : List ByteArray) (x1 : List ByteArray) := ibody (EE.on sig36) (C k) k live36 sig36 Try.f36 [.sl false (.strs x0), .sl false (.strs x1)]
noncomputable def SameS.l0 (C : Nat → CallF) (k j : Nat) (a0 : List ByteArray) (a1 : List ByteArray) (a2 : Int) := cutL (EE.on sig36) (C k) k live36 (some 4) [1, 1, 0, 1, 4] [] (bodyOf Try.f36) (kfin (EE.on sig36) sig36 Try.f36) j (mkSt 26 [(0, .sl false (.strs a0)), (1, .sl false (.strs a1)), (5, .int .i64 a2)] [] [])
noncomputable def SameS.e0 (C : Nat → CallF) (k : Nat) := cutE (EE.on sig36) (C k) k live36 (some 8) [1, 1, 1] [] (bodyOf Try.f36) (kfin (EE.on sig36) sig36 Try.f36) (mkSt 26 [] [] [])
theorem SameS.f_eq (C : Nat → CallF) (k : Nat) (x0 : List ByteArray) (x1 : List ByteArray) : SameS.f C k x0 x1 =
  cond ((x0.length : Int) != (x1.length : Int))
    (some (.bool false, []))
    (SameS.l0 C k k x0 x1 0) := by kernel_rfl
theorem SameS.l0_eq (C : Nat → CallF) (k j : Nat) (a0 : List ByteArray) (a1 : List ByteArray) (a2 : Int) : SameS.l0 C k (j + 1) a0 a1 a2 =
  cond (decide (a2 < (a0.length : Int)))
    (if (0 : Int) ≤ a2 then
      (match a0[a2.toNat]? with
        | some x1 => if (0 : Int) ≤ a2 then
          (match a1[a2.toNat]? with
            | some x2 => cond (!(x1.toList == x2.toList))
              (some (.bool false, []))
              (SameS.l0 C k j a0 a1 (IntKind.i64.wrap (a2 + 1)))
            | none => none)
        else none
        | none => none)
    else none)
    (SameS.e0 C k) := (stop_eq (some 4) _ _ _).trans (by kernel_rfl)
theorem SameS.e0_eq (C : Nat → CallF) (k : Nat) : SameS.e0 C k =
  some (.bool true, []) := (stop_eq (some 8) _ _ _).trans (by kernel_rfl)
def live40 : Live := fun q a b => match q, a, b with
  | 4, some 2, some 3 => some [(0, false), (1, false), (5, false)]
  | 9, some 1, some 3 => some [(0, false), (1, false)]
  | _, _, _ => none
noncomputable def RefCompare.f (C : Nat → CallF) (k : Nat) (x0 : ByteArray) (x1 : ByteArray) := ibody (EE.on sig40) (C k) k live40 sig40 Try.f40 [.str x0, .str x1]
noncomputable def RefCompare.l0 (C : Nat → CallF) (k j : Nat) (a0 : ByteArray) (a1 : ByteArray) (a2 : Int) := cutL (EE.on sig40) (C k) k live40 (some 2) [1, 0, 1, 4] [] (bodyOf Try.f40) (kfin (EE.on sig40) sig40 Try.f40) j (mkSt 42 [(0, .str a0), (1, .str a1), (5, .int .i64 a2)] [] [])
noncomputable def RefCompare.e0 (C : Nat → CallF) (k : Nat) (a0 : ByteArray) (a1 : ByteArray) := cutE (EE.on sig40) (C k) k live40 (some 8) [1, 1] [] (bodyOf Try.f40) (kfin (EE.on sig40) sig40 Try.f40) (mkSt 42 [(0, .str a0), (1, .str a1)] [] [])
theorem RefCompare.f_eq (C : Nat → CallF) (k : Nat) (x0 : ByteArray) (x1 : ByteArray) : RefCompare.f C k x0 x1 =
  RefCompare.l0 C k k x0 x1 0 := by kernel_rfl
theorem RefCompare.l0_eq (C : Nat → CallF) (k j : Nat) (a0 : ByteArray) (a1 : ByteArray) (a2 : Int) : RefCompare.l0 C k (j + 1) a0 a1 a2 =
  cond (decide (a2 < (a0.size : Int)))
    (cond (decide (a2 < (a1.size : Int)))
      (if (0 : Int) ≤ a2 then
        (match a0.data.toList[a2.toNat]? with
          | some b1 => if (0 : Int) ≤ a2 then
            (match a1.data.toList[a2.toNat]? with
              | some b2 => cond (decide ((b1.toNat : Int) < (b2.toNat : Int)))
                (some (.int .i64 (-1), []))
                (if (0 : Int) ≤ a2 then
                  (match a0.data.toList[a2.toNat]? with
                    | some b3 => if (0 : Int) ≤ a2 then
                      (match a1.data.toList[a2.toNat]? with
                        | some b4 => cond (decide ((b3.toNat : Int) > (b4.toNat : Int)))
                          (some (.int .i64 1, []))
                          (RefCompare.l0 C k j a0 a1 (IntKind.i64.wrap (a2 + 1)))
                        | none => none)
                    else none
                    | none => none)
                else none)
              | none => none)
          else none
          | none => none)
      else none)
      (RefCompare.e0 C k a0 a1))
    (RefCompare.e0 C k a0 a1) := (stop_eq (some 2) _ _ _).trans (by kernel_rfl)
theorem RefCompare.e0_eq (C : Nat → CallF) (k : Nat) (a0 : ByteArray) (a1 : ByteArray) : RefCompare.e0 C k a0 a1 =
  cond (decide ((a0.size : Int) < (a1.size : Int)))
    (some (.int .i64 (-1), []))
    (cond (decide ((a0.size : Int) > (a1.size : Int)))
      (some (.int .i64 1, []))
      (some (.int .i64 0, []))) := (stop_eq (some 8) _ _ _).trans (by kernel_rfl)
def live72 : Live := fun q a b => match q, a, b with
  | _, _, _ => none
noncomputable def RefPut1.f (C : Nat → CallF) (k : Nat) (x0 : Int) := ibody (EE.on sig72) (C k) k live72 sig72 Try.f72 [.int .i64 x0]
theorem RefPut1.f_eq (C : Nat → CallF) (k : Nat) (x0 : Int) : RefPut1.f C k x0 =
  cond (decide (x0 < 0))
    (some (.sl true (.ints .u8 ([] : List Int)), []))
    (cond (decide (x0 < 128))
      (some (.sl true (.ints .u8 [(IntKind.u8.wrap x0)]), []))
      (RefPut1.q (C k) (IntKind.i64.wrap (x0.tdiv 128)) (fun l1 =>
        if [(IntKind.u8.wrap (IntKind.i64.wrap ((x0.tmod 128) + 128)))].length + l1.length ≤ bound ∧ 1 = 1 then
          some (.sl true (.ints .u8 ([(IntKind.u8.wrap (IntKind.i64.wrap ((x0.tmod 128) + 128)))] ++ l1)), [])
        else none))) := by kernel_rfl
def live73 : Live := fun q a b => match q, a, b with
  | _, _, _ => none
noncomputable def RefText1.f (C : Nat → CallF) (k : Nat) (x0 : ByteArray) := ibody (EE.on sig73) (C k) k live73 sig73 Try.f73 [.str x0]
theorem RefText1.f_eq (C : Nat → CallF) (k : Nat) (x0 : ByteArray) : RefText1.f C k x0 =
  RefPut1.q (C k) (x0.size : Int) (fun l1 =>
    if l1.length + (strBytes x0).length ≤ bound ∧ 1 = 1 then
      some (.sl true (.ints .u8 (l1 ++ (strBytes x0))), [])
    else none) := by kernel_rfl
def live74 : Live := fun q a b => match q, a, b with
  | _, _, _ => none
noncomputable def RefWrite3.f (C : Nat → CallF) (k : Nat) (x0 : List Int) := ibody (EE.on sig74) (C k) k live74 sig74 Try.f74 [.sl false (.ints .i64 x0)]
theorem RefWrite3.f_eq (C : Nat → CallF) (k : Nat) (x0 : List Int) : RefWrite3.f C k x0 =
  RefWidth.s (C k) x0 (fun n1 =>
    RefPut3.q (C k) x0 n1 (fun l2 n3 =>
      RefPut1.q (C k) (x0.length : Int) (fun l4 =>
        RefWidth.s (C k) x0 (fun n5 =>
          if l4.length + [(IntKind.u8.wrap n5)].length ≤ bound ∧ 1 = 1 then
            if (l4 ++ [(IntKind.u8.wrap n5)]).length + l2.length ≤ bound ∧ 1 = 1 then
              some (.sl true (.ints .u8 ((l4 ++ [(IntKind.u8.wrap n5)]) ++ l2)), [])
            else none
          else none)))) := by kernel_rfl
def live99 : Live := fun q a b => match q, a, b with
  | 2, some 13, some 17 => some [(0, false), (1, false), (6, false), (7, false), (8, false), (9, false)]
  | 2, some 8, some 12 => some [(0, false), (1, false), (6, false), (7, false), (8, false)]
  | 4, some 11, some 12 => some [(0, false), (1, false), (6, false), (7, false), (8, false), (9, false)]
  | 4, some 6, some 7 => some [(0, false), (1, false), (6, false), (7, false), (8, false)]
  | 9, some 13, some 14 => some [(0, false), (1, false), (6, false), (7, false), (8, false), (9, false)]
  | 9, some 15, some 16 => some [(0, false), (1, false), (6, false), (7, false), (8, false), (9, false)]
  | 9, some 5, some 7 => some [(6, false)]
  | _, _, _ => none
noncomputable def RefPut3.f (C : Nat → CallF) (k : Nat) (x0 : List Int) (x1 : Int) := ibody (EE.on sig99) (C k) k live99 sig99 Try.f99 [.sl false (.ints .i64 x0), .int .i64 x1]
noncomputable def RefPut3.l0 (C : Nat → CallF) (k j : Nat) (a0 : List Int) (a1 : Int) (a2 : Int) (a3 : Int) (a4 : List Int) := cutL (EE.on sig99) (C k) k live99 (some 6) [1, 1, 1, 1, 0, 1, 4] [] (bodyOf Try.f99) (kfin (EE.on sig99) sig99 Try.f99) j (mkSt 73 [(0, .sl false (.ints .i64 a0)), (1, .int .i64 a1), (6, .rs 0), (7, .int .i64 a2), (8, .int .i64 a3)] [.sl true (.ints .u8 a4)] [])
noncomputable def RefPut3.l1 (C : Nat → CallF) (k j j0 : Nat) (a0 : List Int) (a1 : Int) (a2 : Int) (a3 : Int) (a4 : Int) (a5 : List Int) := cutL (EE.on sig99) (C k) k live99 (some 11) [1, 1, 1, 1, 0, 1, 4, 5, 1, 0, 4, 1, 1, 4] [j0] (bodyOf Try.f99) (kfin (EE.on sig99) sig99 Try.f99) j (mkSt 73 [(0, .sl false (.ints .i64 a0)), (1, .int .i64 a1), (6, .rs 0), (7, .int .i64 a2), (8, .int .i64 a3), (9, .int .i64 a4)] [.sl true (.ints .u8 a5)] [])
noncomputable def RefPut3.e0 (C : Nat → CallF) (k : Nat) (a0 : List Int) := cutE (EE.on sig99) (C k) k live99 (some 18) [1, 1, 1, 1, 1] [] (bodyOf Try.f99) (kfin (EE.on sig99) sig99 Try.f99) (mkSt 73 [(6, .rs 0)] [.sl true (.ints .u8 a0)] [])
noncomputable def RefPut3.e1 (C : Nat → CallF) (k j0 j1 : Nat) (a0 : List Int) (a1 : Int) (a2 : Int) (a3 : Int) (a4 : Int) (a5 : List Int) := cutE (EE.on sig99) (C k) k live99 (some 15) [1, 1, 1, 1, 0, 1, 4, 5, 1, 0, 4, 1, 1, 4, 5, 1, 0, 4, 1] [j0, j1] (bodyOf Try.f99) (kfin (EE.on sig99) sig99 Try.f99) (mkSt 73 [(0, .sl false (.ints .i64 a0)), (1, .int .i64 a1), (6, .rs 0), (7, .int .i64 a2), (8, .int .i64 a3), (9, .int .i64 a4)] [.sl true (.ints .u8 a5)] [])
noncomputable def RefPut3.e2 (C : Nat → CallF) (k j0 : Nat) (a0 : List Int) (a1 : Int) (a2 : Int) (a3 : Int) (a4 : List Int) := cutE (EE.on sig99) (C k) k live99 (some 7) [1, 1, 1, 1, 0, 1, 4, 5, 1, 1] [j0] (bodyOf Try.f99) (kfin (EE.on sig99) sig99 Try.f99) (mkSt 73 [(0, .sl false (.ints .i64 a0)), (1, .int .i64 a1), (6, .rs 0), (7, .int .i64 a2), (8, .int .i64 a3)] [.sl true (.ints .u8 a4)] [])
noncomputable def RefPut3.e3 (C : Nat → CallF) (k j0 j1 : Nat) (a0 : List Int) (a1 : Int) (a2 : Int) (a3 : Int) (a4 : Int) (a5 : List Int) := cutE (EE.on sig99) (C k) k live99 (some 17) [1, 1, 1, 1, 0, 1, 4, 5, 1, 0, 4, 1, 1, 4, 5, 1, 0, 4, 1, 1] [j0, j1] (bodyOf Try.f99) (kfin (EE.on sig99) sig99 Try.f99) (mkSt 73 [(0, .sl false (.ints .i64 a0)), (1, .int .i64 a1), (6, .rs 0), (7, .int .i64 a2), (8, .int .i64 a3), (9, .int .i64 a4)] [.sl true (.ints .u8 a5)] [])
noncomputable def RefPut3.e4 (C : Nat → CallF) (k j0 j1 : Nat) (a0 : List Int) (a1 : Int) (a2 : Int) (a3 : Int) (a4 : Int) (a5 : List Int) := cutE (EE.on sig99) (C k) k live99 (some 12) [1, 1, 1, 1, 0, 1, 4, 5, 1, 0, 4, 1, 1, 4, 5, 1, 1] [j0, j1] (bodyOf Try.f99) (kfin (EE.on sig99) sig99 Try.f99) (mkSt 73 [(0, .sl false (.ints .i64 a0)), (1, .int .i64 a1), (6, .rs 0), (7, .int .i64 a2), (8, .int .i64 a3), (9, .int .i64 a4)] [.sl true (.ints .u8 a5)] [])
theorem RefPut3.f_eq (C : Nat → CallF) (k : Nat) (x0 : List Int) (x1 : Int) : RefPut3.f C k x0 x1 =
  cond (decide (x1 < 0))
    (some (.tup [.sl true (.ints .u8 ([] : List Int)), .int .i64 1], []))
    (cond (decide (x1 > 32))
      (some (.tup [.sl true (.ints .u8 ([] : List Int)), .int .i64 1], []))
      (RefPut3.l0 C k k x0 x1 0 0 ([] : List Int))) := by kernel_rfl
theorem RefPut3.l0_eq (C : Nat → CallF) (k j : Nat) (a0 : List Int) (a1 : Int) (a2 : Int) (a3 : Int) (a4 : List Int) : RefPut3.l0 C k (j + 1) a0 a1 a2 a3 a4 =
  cond (decide (a3 < (a0.length : Int)))
    (if (0 : Int) ≤ a3 then
      (match a0[a3.toNat]? with
        | some x1 => cond (decide (x1 < 0))
          (some (.tup [.sl true (.ints .u8 ([] : List Int)), .int .i64 1], []))
          (if (0 : Int) ≤ a3 then
            (match a0[a3.toNat]? with
              | some x2 => RefPower.s (C k) a1 (fun n3 =>
                cond (decide (x2 ≥ n3))
                  (some (.tup [.sl true (.ints .u8 ([] : List Int)), .int .i64 1], []))
                  (RefPut3.l1 C k k j a0 a1 a2 a3 0 a4))
              | none => none)
          else none)
        | none => none)
    else none)
    (RefPut3.e0 C k a4) := (stop_eq (some 6) _ _ _).trans (by kernel_rfl)
theorem RefPut3.l1_eq (C : Nat → CallF) (k j j0 : Nat) (a0 : List Int) (a1 : Int) (a2 : Int) (a3 : Int) (a4 : Int) (a5 : List Int) : RefPut3.l1 C k (j + 1) j0 a0 a1 a2 a3 a4 a5 =
  cond (decide (a4 < a1))
    (cond ((a2.tmod 8) == 0)
      (if a5.length + [0].length ≤ bound ∧ 1 = 1 then
        RefPut3.e1 C k j0 j a0 a1 a2 a3 a4 (a5 ++ [0])
      else none)
      (RefPut3.e1 C k j0 j a0 a1 a2 a3 a4 a5))
    (RefPut3.e2 C k j0 a0 a1 a2 a3 a5) := (stop_eq (some 11) _ _ _).trans (by kernel_rfl)
theorem RefPut3.e0_eq (C : Nat → CallF) (k : Nat) (a0 : List Int) : RefPut3.e0 C k a0 =
  some (.tup [.sl true (.ints .u8 a0), .int .i64 0], []) := (stop_eq (some 18) _ _ _).trans (by kernel_rfl)
theorem RefPut3.e1_eq (C : Nat → CallF) (k j0 j1 : Nat) (a0 : List Int) (a1 : Int) (a2 : Int) (a3 : Int) (a4 : Int) (a5 : List Int) : RefPut3.e1 C k j0 j1 a0 a1 a2 a3 a4 a5 =
  if (0 : Int) ≤ a3 then
    (match a0[a3.toNat]? with
      | some x4 => RefPower.s (C k) a4 (fun n5 =>
        if n5 = 0 then none else
          cond (((IntKind.i64.wrap (x4.tdiv n5)).tmod 2) == 1)
            (if (0 : Int) ≤ (IntKind.i64.wrap (a2.tdiv 8)) then
              if (IntKind.i64.wrap (a2.tdiv 8)) < (a5.length : Int) ∧ 1 = 1 then
                (match a5[(IntKind.i64.wrap (a2.tdiv 8)).toNat]? with
                  | some x6 => RefPower.s (C k) (a2.tmod 8) (fun n7 =>
                    if (0 : Int) ≤ (IntKind.i64.wrap (a2.tdiv 8)) then
                      if (IntKind.i64.wrap (a2.tdiv 8)) < (a5.length : Int) ∧ 1 = 1 then
                        RefPut3.e3 C k j0 j1 a0 a1 a2 a3 a4 (a5.set ((IntKind.i64.wrap (a2.tdiv 8)).toNat) (IntKind.u8.wrap (x6 + (IntKind.u8.wrap n7))))
                      else none
                    else none)
                  | none => none)
              else none
            else none)
            (RefPut3.e3 C k j0 j1 a0 a1 a2 a3 a4 a5))
      | none => none)
  else none := (stop_eq (some 15) _ _ _).trans (by kernel_rfl)
theorem RefPut3.e2_eq (C : Nat → CallF) (k j0 : Nat) (a0 : List Int) (a1 : Int) (a2 : Int) (a3 : Int) (a4 : List Int) : RefPut3.e2 C k j0 a0 a1 a2 a3 a4 =
  RefPut3.l0 C k j0 a0 a1 a2 (IntKind.i64.wrap (a3 + 1)) a4 := (stop_eq (some 7) _ _ _).trans (by kernel_rfl)
theorem RefPut3.e3_eq (C : Nat → CallF) (k j0 j1 : Nat) (a0 : List Int) (a1 : Int) (a2 : Int) (a3 : Int) (a4 : Int) (a5 : List Int) : RefPut3.e3 C k j0 j1 a0 a1 a2 a3 a4 a5 =
  RefPut3.e4 C k j0 j1 a0 a1 (IntKind.i64.wrap (a2 + 1)) a3 a4 a5 := (stop_eq (some 17) _ _ _).trans (by kernel_rfl)
theorem RefPut3.e4_eq (C : Nat → CallF) (k j0 j1 : Nat) (a0 : List Int) (a1 : Int) (a2 : Int) (a3 : Int) (a4 : Int) (a5 : List Int) : RefPut3.e4 C k j0 j1 a0 a1 a2 a3 a4 a5 =
  RefPut3.l1 C k j1 j0 a0 a1 a2 a3 (IntKind.i64.wrap (a4 + 1)) a5 := (stop_eq (some 12) _ _ _).trans (by kernel_rfl)
def live100 : Live := fun q a b => match q, a, b with
  | 2, some 5, some 6 => some [(0, false), (3, false), (4, false)]
  | 4, some 3, some 4 => some [(0, false), (3, false), (4, false)]
  | 4, some 5, some 6 => some [(0, false), (3, false), (4, false)]
  | 9, some 2, some 4 => some [(3, false)]
  | _, _, _ => none
noncomputable def RefWidth.f (C : Nat → CallF) (k : Nat) (x0 : List Int) := ibody (EE.on sig100) (C k) k live100 sig100 Try.f100 [.sl false (.ints .i64 x0)]
noncomputable def RefWidth.l0 (C : Nat → CallF) (k j : Nat) (a0 : List Int) (a1 : Int) (a2 : Int) := cutL (EE.on sig100) (C k) k live100 (some 3) [1, 1, 0, 1, 4] [] (bodyOf Try.f100) (kfin (EE.on sig100) sig100 Try.f100) j (mkSt 21 [(0, .sl false (.ints .i64 a0)), (3, .int .i64 a1), (4, .int .i64 a2)] [] [])
noncomputable def RefWidth.l1 (C : Nat → CallF) (k j j0 : Nat) (a0 : List Int) (a1 : Int) (a2 : Int) := cutL (EE.on sig100) (C k) k live100 (some 5) [1, 1, 0, 1, 4, 5, 1, 0, 4, 4] [j0] (bodyOf Try.f100) (kfin (EE.on sig100) sig100 Try.f100) j (mkSt 21 [(0, .sl false (.ints .i64 a0)), (3, .int .i64 a1), (4, .int .i64 a2)] [] [])
noncomputable def RefWidth.e0 (C : Nat → CallF) (k : Nat) (a0 : Int) := cutE (EE.on sig100) (C k) k live100 (some 7) [1, 1, 1] [] (bodyOf Try.f100) (kfin (EE.on sig100) sig100 Try.f100) (mkSt 21 [(3, .int .i64 a0)] [] [])
noncomputable def RefWidth.e1 (C : Nat → CallF) (k j0 : Nat) (a0 : List Int) (a1 : Int) (a2 : Int) := cutE (EE.on sig100) (C k) k live100 (some 4) [1, 1, 0, 1, 4, 5, 1, 1] [j0] (bodyOf Try.f100) (kfin (EE.on sig100) sig100 Try.f100) (mkSt 21 [(0, .sl false (.ints .i64 a0)), (3, .int .i64 a1), (4, .int .i64 a2)] [] [])
theorem RefWidth.f_eq (C : Nat → CallF) (k : Nat) (x0 : List Int) : RefWidth.f C k x0 =
  RefWidth.l0 C k k x0 0 0 := by kernel_rfl
theorem RefWidth.l0_eq (C : Nat → CallF) (k j : Nat) (a0 : List Int) (a1 : Int) (a2 : Int) : RefWidth.l0 C k (j + 1) a0 a1 a2 =
  cond (decide (a2 < (a0.length : Int)))
    (RefWidth.l1 C k k j a0 a1 a2)
    (RefWidth.e0 C k a1) := (stop_eq (some 3) _ _ _).trans (by kernel_rfl)
theorem RefWidth.l1_eq (C : Nat → CallF) (k j j0 : Nat) (a0 : List Int) (a1 : Int) (a2 : Int) : RefWidth.l1 C k (j + 1) j0 a0 a1 a2 =
  if (0 : Int) ≤ a2 then
    (match a0[a2.toNat]? with
      | some x1 => RefPower.s (C k) a1 (fun n2 =>
        cond (decide (x1 ≥ n2))
          (RefWidth.l1 C k j j0 a0 (IntKind.i64.wrap (a1 + 1)) a2)
          (RefWidth.e1 C k j0 a0 a1 a2))
      | none => none)
  else none := (stop_eq (some 5) _ _ _).trans (by kernel_rfl)
theorem RefWidth.e0_eq (C : Nat → CallF) (k : Nat) (a0 : Int) : RefWidth.e0 C k a0 =
  some (.int .i64 a0, []) := (stop_eq (some 7) _ _ _).trans (by kernel_rfl)
theorem RefWidth.e1_eq (C : Nat → CallF) (k j0 : Nat) (a0 : List Int) (a1 : Int) (a2 : Int) : RefWidth.e1 C k j0 a0 a1 a2 =
  RefWidth.l0 C k j0 a0 a1 (IntKind.i64.wrap (a2 + 1)) := (stop_eq (some 4) _ _ _).trans (by kernel_rfl)
def live113 : Live := fun q a b => match q, a, b with
  | 4, some 3, some 4 => some [(0, false), (3, false), (4, false)]
  | 9, some 2, some 4 => some [(3, false)]
  | _, _, _ => none
noncomputable def RefPower.f (C : Nat → CallF) (k : Nat) (x0 : Int) := ibody (EE.on sig113) (C k) k live113 sig113 Try.f113 [.int .i64 x0]
noncomputable def RefPower.l0 (C : Nat → CallF) (k j : Nat) (a0 : Int) (a1 : Int) (a2 : Int) := cutL (EE.on sig113) (C k) k live113 (some 3) [1, 1, 0, 1, 4] [] (bodyOf Try.f113) (kfin (EE.on sig113) sig113 Try.f113) j (mkSt 13 [(0, .int .i64 a0), (3, .int .i64 a1), (4, .int .i64 a2)] [] [])
noncomputable def RefPower.e0 (C : Nat → CallF) (k : Nat) (a0 : Int) := cutE (EE.on sig113) (C k) k live113 (some 6) [1, 1, 1] [] (bodyOf Try.f113) (kfin (EE.on sig113) sig113 Try.f113) (mkSt 13 [(3, .int .i64 a0)] [] [])
theorem RefPower.f_eq (C : Nat → CallF) (k : Nat) (x0 : Int) : RefPower.f C k x0 =
  RefPower.l0 C k k x0 1 0 := by kernel_rfl
theorem RefPower.l0_eq (C : Nat → CallF) (k j : Nat) (a0 : Int) (a1 : Int) (a2 : Int) : RefPower.l0 C k (j + 1) a0 a1 a2 =
  cond (decide (a2 < a0))
    (RefPower.l0 C k j a0 (IntKind.i64.wrap (2 * a1)) (IntKind.i64.wrap (a2 + 1)))
    (RefPower.e0 C k a1) := (stop_eq (some 3) _ _ _).trans (by kernel_rfl)
theorem RefPower.e0_eq (C : Nat → CallF) (k : Nat) (a0 : Int) : RefPower.e0 C k a0 =
  some (.int .i64 a0, []) := (stop_eq (some 6) _ _ _).trans (by kernel_rfl)
/-- the table's equations for these functions -/
structure EqFnR (C : Nat → CallF) : Prop where
  Few13 : ∀ (k : Nat) (x0 : List ByteArray), C (k + 1) 25 [.sl false (.strs x0)] = Few13.f C k x0
  Few07 : ∀ (k : Nat) (x0 : List ByteArray), C (k + 1) 68 [.sl false (.strs x0)] = Few07.f C k x0
  RefRight : ∀ (k : Nat) (x0 : List ByteArray) (x1 : Int), C (k + 1) 27 [.sl false (.strs x0), .int .i64 x1] = RefRight.f C k x0 x1
  SameB : ∀ (k : Nat) (x0 : List Int) (x1 : List Int), C (k + 1) 28 [.sl false (.ints .u8 x0), .sl false (.ints .u8 x1)] = SameB.f C k x0 x1
  RefBuild : ∀ (k : Nat) (x0 : List ByteArray) (x1 : Int), C (k + 1) 29 [.sl false (.strs x0), .int .i64 x1] = RefBuild.f C k x0 x1
  RefSorted : ∀ (k : Nat) (x0 : List ByteArray), C (k + 1) 35 [.sl false (.strs x0)] = RefSorted.f C k x0
  SameS : ∀ (k : Nat) (x0 : List ByteArray) (x1 : List ByteArray), C (k + 1) 36 [.sl false (.strs x0), .sl false (.strs x1)] = SameS.f C k x0 x1
  RefCompare : ∀ (k : Nat) (x0 : ByteArray) (x1 : ByteArray), C (k + 1) 40 [.str x0, .str x1] = RefCompare.f C k x0 x1
  RefPut1 : ∀ (k : Nat) (x0 : Int), C (k + 1) 72 [.int .i64 x0] = RefPut1.f C k x0
  RefText1 : ∀ (k : Nat) (x0 : ByteArray), C (k + 1) 73 [.str x0] = RefText1.f C k x0
  RefWrite3 : ∀ (k : Nat) (x0 : List Int), C (k + 1) 74 [.sl false (.ints .i64 x0)] = RefWrite3.f C k x0
  RefPut3 : ∀ (k : Nat) (x0 : List Int) (x1 : Int), C (k + 1) 99 [.sl false (.ints .i64 x0), .int .i64 x1] = RefPut3.f C k x0 x1
  RefWidth : ∀ (k : Nat) (x0 : List Int), C (k + 1) 100 [.sl false (.ints .i64 x0)] = RefWidth.f C k x0
  RefPower : ∀ (k : Nat) (x0 : Int), C (k + 1) 113 [.int .i64 x0] = RefPower.f C k x0
end Go.Proofs.Ytfkkigbbejhfbaa
