/- Step equations of some functions. -/
import Derived.Test.YtfkkigbbejhfbaaTab
namespace Go.Proofs.Ytfkkigbbejhfbaa
open Go Idl
set_option maxRecDepth 100000
set_option linter.unusedVariables false
def live15 : Live := fun q a b => match q, a, b with
  | _, _, _ => none
noncomputable def Awake03.f (C : Nat → CallF) (k : Nat) := ibody (EE.on sig15) (C k) k live15 sig15 Try.f15 []
theorem Awake03.f_eq (C : Nat → CallF) (k : Nat) : Awake03.f C k =
  PackPut.q (C k) [1, 2, 3] 2 (fun l1 n2 =>
    PackWrite.q (C k) [1, 2, 3] (fun l3 n4 =>
      cond (n2 == 0)
        (cond ((l1.length : Int) == 1)
          (if (0 : Int) ≤ 0 then
            if (0 : Int) < (l1.length : Int) ∧ 1 = 1 then
              (match l1[(0 : Int).toNat]? with
                | some x5 => cond (x5 == 57)
                  (cond (n4 == 0)
                    (cond ((l3.length : Int) == 3)
                      (PackGet.s (C k) l1 2 1 (fun n6 =>
                        cond (n6 == 2)
                          (Width.s (C k) [4, 1] (fun n7 =>
                            some (.bool (n7 == 3), [])))
                          (some (.bool false, []))))
                      (some (.bool false, [])))
                    (some (.bool false, [])))
                  (some (.bool false, []))
                | none => none)
            else none
          else none)
          (some (.bool false, [])))
        (some (.bool false, [])))) := by kernel_rfl
def live16 : Live := fun q a b => match q, a, b with
  | _, _, _ => none
noncomputable def Width.f (C : Nat → CallF) (k : Nat) (x0 : List Int) := ibody (EE.on sig16) (C k) k live16 sig16 Try.f16 [.sl false (.ints .i64 x0)]
theorem Width.f_eq (C : Nat → CallF) (k : Nat) (x0 : List Int) : Width.f C k x0 =
  cond ((x0.length : Int) == 0)
    (some (.int .i64 0, []))
    (MaxInts.s (C k) x0 (fun n1 =>
      Len32.s (C k) (IntKind.u32.wrap n1) (fun n2 =>
        some (.int .i64 n2, [])))) := by kernel_rfl
def live17 : Live := fun q a b => match q, a, b with
  | 2, some 6, some 14 => some [(1, false), (6, false), (22, false), (23, false), (24, false)]
  | 4, some 10, some 14 => some [(1, false), (6, false), (7, false), (8, false), (22, false), (23, false), (24, false), (37, false), (38, false)]
  | 4, some 5, some 15 => some [(1, false), (6, false), (22, false), (23, false), (24, false)]
  | 9, some 4, some 15 => some [(6, false)]
  | _, _, _ => none
noncomputable def PackPut.f (C : Nat → CallF) (k : Nat) (x0 : List Int) (x1 : Int) := ibody (EE.on sig17) (C k) k live17 sig17 Try.f17 [.sl false (.ints .i64 x0), .int .i64 x1]
noncomputable def PackPut.l0 (C : Nat → CallF) (k j : Nat) (a0 : Int) (a1 : List Int) (a2 : Int) (a3 : Int) (a4 : List Int) := cutL (EE.on sig17) (C k) k live17 (some 5) [1, 1, 1, 0, 1, 4] [] (bodyOf Try.f17) (kfin (EE.on sig17) sig17 Try.f17) j (mkSt 64 [(1, .int .i64 a0), (6, .rs 0), (22, .sl false (.ints .i64 a1)), (23, .int .i64 a2), (24, .int .i64 a3)] [.sl true (.ints .u8 a4)] [])
noncomputable def PackPut.l1 (C : Nat → CallF) (k j j0 : Nat) (a0 : Int) (a1 : Int) (a2 : Int) (a3 : List Int) (a4 : Int) (a5 : Int) (a6 : Int) (a7 : Int) (a8 : List Int) := cutL (EE.on sig17) (C k) k live17 (some 10) [1, 1, 1, 0, 1, 4, 5, 1, 1, 0, 4, 1, 1, 1, 4] [j0] (bodyOf Try.f17) (kfin (EE.on sig17) sig17 Try.f17) j (mkSt 64 [(1, .int .i64 a0), (6, .rs 0), (7, .int .i64 a1), (8, .int .i64 a2), (22, .sl false (.ints .i64 a3)), (23, .int .i64 a4), (24, .int .i64 a5), (37, .int .i64 a6), (38, .int .i64 a7)] [.sl true (.ints .u8 a8)] [])
noncomputable def PackPut.e0 (C : Nat → CallF) (k : Nat) (a0 : List Int) := cutE (EE.on sig17) (C k) k live17 (some 16) [1, 1, 1, 1] [] (bodyOf Try.f17) (kfin (EE.on sig17) sig17 Try.f17) (mkSt 64 [(6, .rs 0)] [.sl true (.ints .u8 a0)] [])
noncomputable def PackPut.e1 (C : Nat → CallF) (k j0 : Nat) (a0 : Int) (a1 : List Int) (a2 : Int) (a3 : Int) (a4 : List Int) := cutE (EE.on sig17) (C k) k live17 (some 15) [1, 1, 1, 0, 1, 4, 5, 1, 1, 1] [j0] (bodyOf Try.f17) (kfin (EE.on sig17) sig17 Try.f17) (mkSt 64 [(1, .int .i64 a0), (6, .rs 0), (22, .sl false (.ints .i64 a1)), (23, .int .i64 a2), (24, .int .i64 a3)] [.sl true (.ints .u8 a4)] [])
theorem PackPut.f_eq (C : Nat → CallF) (k : Nat) (x0 : List Int) (x1 : Int) : PackPut.f C k x0 x1 =
  cond (decide (x1 < 0))
    (some (.tup [.sl true (.ints .u8 ([] : List Int)), .int .i64 1], []))
    (cond (decide (x1 > 32))
      (some (.tup [.sl true (.ints .u8 ([] : List Int)), .int .i64 1], []))
      (PackSize.s (C k) (x0.length : Int) x1 (fun n1 =>
        if (0 : Int) ≤ n1 ∧ n1 ≤ n1 ∧ n1 ≤ (bound : Int) ∧ 1 ≤ 4096 then
          PackPut.l0 C k k x1 x0 (x0.length : Int) 0 (List.replicate n1.toNat 0)
        else none))) := by kernel_rfl
theorem PackPut.l0_eq (C : Nat → CallF) (k j : Nat) (a0 : Int) (a1 : List Int) (a2 : Int) (a3 : Int) (a4 : List Int) : PackPut.l0 C k (j + 1) a0 a1 a2 a3 a4 =
  cond (decide (a3 < a2))
    (if (0 : Int) ≤ a3 then
      (match a1[a3.toNat]? with
        | some x2 => cond (decide (x2 < 0))
          (some (.tup [.sl true (.ints .u8 ([] : List Int)), .int .i64 1], []))
          (if a0 < 0 then none else
            cond (decide ((x2.fdiv (2 ^ (min a0.toNat IntKind.i64.bits))) > 0))
              (some (.tup [.sl true (.ints .u8 ([] : List Int)), .int .i64 1], []))
              (PackPut.l1 C k k j a0 a3 x2 a1 a2 a3 a0 0 a4))
        | none => none)
    else none)
    (PackPut.e0 C k a4) := (stop_eq (some 5) _ _ _).trans (by kernel_rfl)
theorem PackPut.l1_eq (C : Nat → CallF) (k j j0 : Nat) (a0 : Int) (a1 : Int) (a2 : Int) (a3 : List Int) (a4 : Int) (a5 : Int) (a6 : Int) (a7 : Int) (a8 : List Int) : PackPut.l1 C k (j + 1) j0 a0 a1 a2 a3 a4 a5 a6 a7 a8 =
  cond (decide (a7 < a6))
    (if (0 : Int) ≤ (IntKind.i64.wrap ((IntKind.i64.wrap ((IntKind.i64.wrap (a1 * a0)) + a7)).tdiv 8)) then
      if (IntKind.i64.wrap ((IntKind.i64.wrap ((IntKind.i64.wrap (a1 * a0)) + a7)).tdiv 8)) < (a8.length : Int) ∧ 1 = 1 then
        (match a8[(IntKind.i64.wrap ((IntKind.i64.wrap ((IntKind.i64.wrap (a1 * a0)) + a7)).tdiv 8)).toNat]? with
          | some x3 => if a7 < 0 then none else
            if ((IntKind.i64.wrap ((IntKind.i64.wrap (a1 * a0)) + a7)).tmod 8) < 0 then none else
              if (0 : Int) ≤ (IntKind.i64.wrap ((IntKind.i64.wrap ((IntKind.i64.wrap (a1 * a0)) + a7)).tdiv 8)) then
                if (IntKind.i64.wrap ((IntKind.i64.wrap ((IntKind.i64.wrap (a1 * a0)) + a7)).tdiv 8)) < (a8.length : Int) ∧ 1 = 1 then
                  PackPut.l1 C k j j0 a0 a1 a2 a3 a4 a5 a6 (IntKind.i64.wrap (a7 + 1)) (a8.set ((IntKind.i64.wrap ((IntKind.i64.wrap ((IntKind.i64.wrap (a1 * a0)) + a7)).tdiv 8)).toNat) (IntKind.u8.wrap ((BitVec.ofInt IntKind.u8.bits x3 ||| BitVec.ofInt IntKind.u8.bits (IntKind.u8.wrap ((IntKind.u8.wrap (IntKind.i64.wrap ((BitVec.ofInt IntKind.i64.bits (a2.fdiv (2 ^ (min a7.toNat IntKind.i64.bits))) &&& BitVec.ofInt IntKind.i64.bits 1).toNat))) * 2 ^ (min ((IntKind.i64.wrap ((IntKind.i64.wrap (a1 * a0)) + a7)).tmod 8).toNat IntKind.u8.bits)))).toNat)))
                else none
              else none
          | none => none)
      else none
    else none)
    (PackPut.e1 C k j0 a0 a3 a4 a5 a8) := (stop_eq (some 10) _ _ _).trans (by kernel_rfl)
theorem PackPut.e0_eq (C : Nat → CallF) (k : Nat) (a0 : List Int) : PackPut.e0 C k a0 =
  some (.tup [.sl true (.ints .u8 a0), .int .i64 0], []) := (stop_eq (some 16) _ _ _).trans (by kernel_rfl)
theorem PackPut.e1_eq (C : Nat → CallF) (k j0 : Nat) (a0 : Int) (a1 : List Int) (a2 : Int) (a3 : Int) (a4 : List Int) : PackPut.e1 C k j0 a0 a1 a2 a3 a4 =
  PackPut.l0 C k j0 a0 a1 a2 (IntKind.i64.wrap (a3 + 1)) a4 := (stop_eq (some 15) _ _ _).trans (by kernel_rfl)
def live18 : Live := fun q a b => match q, a, b with
  | _, _, _ => none
noncomputable def PackWrite.f (C : Nat → CallF) (k : Nat) (x0 : List Int) := ibody (EE.on sig18) (C k) k live18 sig18 Try.f18 [.sl false (.ints .i64 x0)]
theorem PackWrite.f_eq (C : Nat → CallF) (k : Nat) (x0 : List Int) : PackWrite.f C k x0 =
  HasBad.s (C k) x0 (fun b1 =>
    cond b1
      (some (.tup [.sl true (.ints .u8 ([] : List Int)), .int .i64 1], []))
      (Width.s (C k) x0 (fun n2 =>
        PackPut.q (C k) x0 n2 (fun l3 n4 =>
          CurPut.q (C k) (x0.length : Int) (fun l5 =>
            Concat.q (C k) ([.sl false (.ints .u8 l5), .sl false (.ints .u8 [(IntKind.u8.wrap n2)]), .sl false (.ints .u8 l3)]) (fun l6 =>
              some (.tup [.sl true (.ints .u8 l6), .int .i64 0], []))))))) := by kernel_rfl
def live19 : Live := fun q a b => match q, a, b with
  | 2, some 4, some 7 => some [(0, false), (1, false), (2, false), (7, false), (10, false), (11, false)]
  | 4, some 3, some 8 => some [(0, false), (1, false), (2, false), (7, false), (10, false), (11, false)]
  | 9, some 2, some 8 => some [(7, false)]
  | _, _, _ => none
noncomputable def PackGet.f (C : Nat → CallF) (k : Nat) (x0 : List Int) (x1 : Int) (x2 : Int) := ibody (EE.on sig19) (C k) k live19 sig19 Try.f19 [.sl false (.ints .u8 x0), .int .i64 x1, .int .i64 x2]
noncomputable def PackGet.l0 (C : Nat → CallF) (k j : Nat) (a0 : List Int) (a1 : Int) (a2 : Int) (a3 : Int) (a4 : Int) (a5 : Int) := cutL (EE.on sig19) (C k) k live19 (some 3) [1, 1, 0, 1, 4] [] (bodyOf Try.f19) (kfin (EE.on sig19) sig19 Try.f19) j (mkSt 40 [(0, .sl false (.ints .u8 a0)), (1, .int .i64 a1), (2, .int .i64 a2), (7, .int .i64 a3), (10, .int .i64 a4), (11, .int .i64 a5)] [] [])
noncomputable def PackGet.e0 (C : Nat → CallF) (k j0 : Nat) (a0 : List Int) (a1 : Int) (a2 : Int) (a3 : Int) (a4 : Int) (a5 : Int) := cutE (EE.on sig19) (C k) k live19 (some 8) [1, 1, 0, 1, 4, 5, 1, 1, 1] [j0] (bodyOf Try.f19) (kfin (EE.on sig19) sig19 Try.f19) (mkSt 40 [(0, .sl false (.ints .u8 a0)), (1, .int .i64 a1), (2, .int .i64 a2), (7, .int .i64 a3), (10, .int .i64 a4), (11, .int .i64 a5)] [] [])
noncomputable def PackGet.e1 (C : Nat → CallF) (k : Nat) (a0 : Int) := cutE (EE.on sig19) (C k) k live19 (some 9) [1, 1, 1] [] (bodyOf Try.f19) (kfin (EE.on sig19) sig19 Try.f19) (mkSt 40 [(7, .int .i64 a0)] [] [])
theorem PackGet.f_eq (C : Nat → CallF) (k : Nat) (x0 : List Int) (x1 : Int) (x2 : Int) : PackGet.f C k x0 x1 x2 =
  PackGet.l0 C k k x0 x1 x2 0 x1 0 := by kernel_rfl
theorem PackGet.l0_eq (C : Nat → CallF) (k j : Nat) (a0 : List Int) (a1 : Int) (a2 : Int) (a3 : Int) (a4 : Int) (a5 : Int) : PackGet.l0 C k (j + 1) a0 a1 a2 a3 a4 a5 =
  cond (decide (a5 < a4))
    (cond (decide ((IntKind.i64.wrap ((IntKind.i64.wrap ((IntKind.i64.wrap (a2 * a1)) + a5)).tdiv 8)) < (a0.length : Int)))
      (if (0 : Int) ≤ (IntKind.i64.wrap ((IntKind.i64.wrap ((IntKind.i64.wrap (a2 * a1)) + a5)).tdiv 8)) then
        (match a0[(IntKind.i64.wrap ((IntKind.i64.wrap ((IntKind.i64.wrap (a2 * a1)) + a5)).tdiv 8)).toNat]? with
          | some x1 => if ((IntKind.i64.wrap ((IntKind.i64.wrap (a2 * a1)) + a5)).tmod 8) < 0 then none else
            if a5 < 0 then none else
              PackGet.e0 C k j a0 a1 a2 (IntKind.i64.wrap ((BitVec.ofInt IntKind.i64.bits a3 ||| BitVec.ofInt IntKind.i64.bits (IntKind.i64.wrap ((IntKind.i64.wrap (IntKind.u8.wrap ((BitVec.ofInt IntKind.u8.bits (x1.fdiv (2 ^ (min ((IntKind.i64.wrap ((IntKind.i64.wrap (a2 * a1)) + a5)).tmod 8).toNat IntKind.u8.bits))) &&& BitVec.ofInt IntKind.u8.bits 1).toNat))) * 2 ^ (min a5.toNat IntKind.i64.bits)))).toNat)) a4 a5
          | none => none)
      else none)
      (PackGet.e0 C k j a0 a1 a2 a3 a4 a5))
    (PackGet.e1 C k a3) := (stop_eq (some 3) _ _ _).trans (by kernel_rfl)
theorem PackGet.e0_eq (C : Nat → CallF) (k j0 : Nat) (a0 : List Int) (a1 : Int) (a2 : Int) (a3 : Int) (a4 : Int) (a5 : Int) : PackGet.e0 C k j0 a0 a1 a2 a3 a4 a5 =
  PackGet.l0 C k j0 a0 a1 a2 a3 a4 (IntKind.i64.wrap (a5 + 1)) := (stop_eq (some 8) _ _ _).trans (by kernel_rfl)
theorem PackGet.e1_eq (C : Nat → CallF) (k : Nat) (a0 : Int) : PackGet.e1 C k a0 =
  some (.int .i64 a0, []) := (stop_eq (some 9) _ _ _).trans (by kernel_rfl)
def live20 : Live := fun q a b => match q, a, b with
  | _, _, _ => none
noncomputable def CurNew.f (C : Nat → CallF) (k : Nat) (x0 : List Int) := ibody (EE.on sig20) (C k) k live20 sig20 Try.f20 [.sl false (.ints .u8 x0)]
theorem CurNew.f_eq (C : Nat → CallF) (k : Nat) (x0 : List Int) : CurNew.f C k x0 =
  CloneB.q (C k) x0 (fun l1 =>
    some (.pt [.sl false (.ints .u8 l1), .int .i64 0, .int .i64 0], [])) := by kernel_rfl
def live21 : Live := fun q a b => match q, a, b with
  | 4, some 4, some 5 => some [(0, false), (1, false), (5, false)]
  | 9, some 3, some 5 => some []
  | _, _, _ => none
noncomputable def RefInts.f (C : Nat → CallF) (k : Nat) (x0 : List Int) (x1 : List Int) := ibody (EE.on sig21) (C k) k live21 sig21 Try.f21 [.sl false (.ints .i64 x0), .sl false (.ints .i64 x1)]
noncomputable def RefInts.l0 (C : Nat → CallF) (k j : Nat) (a0 : List Int) (a1 : List Int) (a2 : Int) := cutL (EE.on sig21) (C k) k live21 (some 4) [1, 1, 0, 1, 4] [] (bodyOf Try.f21) (kfin (EE.on sig21) sig21 Try.f21) j (mkSt 26 [(0, .sl false (.ints .i64 a0)), (1, .sl false (.ints .i64 a1)), (5, .int .i64 a2)] [] [])
noncomputable def RefInts.e0 (C : Nat → CallF) (k : Nat) := cutE (EE.on sig21) (C k) k live21 (some 8) [1, 1, 1] [] (bodyOf Try.f21) (kfin (EE.on sig21) sig21 Try.f21) (mkSt 26 [] [] [])
theorem RefInts.f_eq (C : Nat → CallF) (k : Nat) (x0 : List Int) (x1 : List Int) : RefInts.f C k x0 x1 =
  cond ((x0.length : Int) != (x1.length : Int))
    (some (.bool false, []))
    (RefInts.l0 C k k x0 x1 0) := by kernel_rfl
theorem RefInts.l0_eq (C : Nat → CallF) (k j : Nat) (a0 : List Int) (a1 : List Int) (a2 : Int) : RefInts.l0 C k (j + 1) a0 a1 a2 =
  cond (decide (a2 < (a0.length : Int)))
    (if (0 : Int) ≤ a2 then
      (match a0[a2.toNat]? with
        | some x1 => if (0 : Int) ≤ a2 then
          (match a1[a2.toNat]? with
            | some x2 => cond (x1 != x2)
              (some (.bool false, []))
              (RefInts.l0 C k j a0 a1 (IntKind.i64.wrap (a2 + 1)))
            | none => none)
        else none
        | none => none)
    else none)
    (RefInts.e0 C k) := (stop_eq (some 4) _ _ _).trans (by kernel_rfl)
theorem RefInts.e0_eq (C : Nat → CallF) (k : Nat) : RefInts.e0 C k =
  some (.bool true, []) := (stop_eq (some 8) _ _ _).trans (by kernel_rfl)
def live22 : Live := fun q a b => match q, a, b with
  | 4, some 11, some 14 => some [(0, false), (6, false), (7, false), (8, false), (29, false), (30, false)]
  | 9, some 10, some 14 => some [(0, false), (6, false), (7, false), (8, false)]
  | _, _, _ => none
noncomputable def PackRead.f (C : Nat → CallF) (k : Nat) (x0 : List Int) (x1 : Int) (x2 : Int) (x3 : Int) := ibody (EE.on sig22) (C k) k live22 sig22 Try.f22 [.pt [.sl false (.ints .u8 x0), .int .i64 x1, .int .i64 x2], .int .i64 x3]
noncomputable def PackRead.l0 (C : Nat → CallF) (k j : Nat) (a0 : Int) (a1 : Int) (a2 : Int) (a3 : List Int) (a4 : Int) (a5 : Int) (a6 : List Int) (a7 : List Int) := cutL (EE.on sig22) (C k) k live22 (some 11) [1, 1, 1, 1, 1, 1, 1, 0, 1, 4] [] (bodyOf Try.f22) (kfin (EE.on sig22) sig22 Try.f22) j (mkSt 60 [(0, .pr 0 0), (6, .int .i64 a0), (7, .rs 1), (8, .rs 2), (29, .int .i64 a1), (30, .int .i64 a2)] [.pt [.sl false (.ints .u8 a3), .int .i64 a4, .int .i64 a5], .sl true (.ints .u8 a6), .sl true (.ints .i64 a7)] [0])
noncomputable def PackRead.e0 (C : Nat → CallF) (k : Nat) (a0 : Int) (a1 : List Int) (a2 : Int) (a3 : Int) (a4 : List Int) (a5 : List Int) := cutE (EE.on sig22) (C k) k live22 (some 15) [1, 1, 1, 1, 1, 1, 1, 1] [] (bodyOf Try.f22) (kfin (EE.on sig22) sig22 Try.f22) (mkSt 60 [(0, .pr 0 0), (6, .int .i64 a0), (7, .rs 1), (8, .rs 2)] [.pt [.sl false (.ints .u8 a1), .int .i64 a2, .int .i64 a3], .sl true (.ints .u8 a4), .sl true (.ints .i64 a5)] [0])
theorem PackRead.f_eq (C : Nat → CallF) (k : Nat) (x0 : List Int) (x1 : Int) (x2 : Int) (x3 : Int) : PackRead.f C k x0 x1 x2 x3 =
  CurMost.q (C k) x0 x1 x2 x3 (fun n1 l2 n3 n4 =>
    CurByte.q (C k) l2 n3 n4 (fun n5 l6 n7 n8 =>
      cond (decide (n5 > 32))
        (CurFail.q (C k) l6 n7 n8 3 (fun l9 n10 n11 =>
          some (.sl false (.ints .i64 ([] : List Int)), [.pt [.sl false (.ints .u8 l9), .int .i64 n10, .int .i64 n11]])))
        (PackSize.s (C k) n1 n5 (fun n12 =>
          CurBytes.q (C k) l6 n7 n8 n12 (fun l13 l14 n15 n16 =>
            CurGood.q (C k) l14 n15 n16 (fun b17 l18 n19 n20 =>
              cond (!b17)
                (some (.sl false (.ints .i64 ([] : List Int)), [.pt [.sl false (.ints .u8 l18), .int .i64 n19, .int .i64 n20]]))
                (PackRead.l0 C k k n5 n1 0 l18 n19 n20 l13 ([] : List Int)))))))) := by kernel_rfl
theorem PackRead.l0_eq (C : Nat → CallF) (k j : Nat) (a0 : Int) (a1 : Int) (a2 : Int) (a3 : List Int) (a4 : Int) (a5 : Int) (a6 : List Int) (a7 : List Int) : PackRead.l0 C k (j + 1) a0 a1 a2 a3 a4 a5 a6 a7 =
  cond (decide (a2 < a1))
    (PackGet.s (C k) a6 a0 a2 (fun n21 =>
      if a7.length + [n21].length ≤ bound ∧ 1 = 1 then
        PackRead.l0 C k j a0 a1 (IntKind.i64.wrap (a2 + 1)) a3 a4 a5 a6 (a7 ++ [n21])
      else none))
    (PackRead.e0 C k a0 a3 a4 a5 a6 a7) := (stop_eq (some 11) _ _ _).trans (by kernel_rfl)
theorem PackRead.e0_eq (C : Nat → CallF) (k : Nat) (a0 : Int) (a1 : List Int) (a2 : Int) (a3 : Int) (a4 : List Int) (a5 : List Int) : PackRead.e0 C k a0 a1 a2 a3 a4 a5 =
  PackPut.q (C k) a5 a0 (fun l22 n23 =>
    Width.s (C k) a5 (fun n24 =>
      cond (n24 != a0)
        (CurFail.q (C k) a1 a2 a3 3 (fun l25 n26 n27 =>
          some (.sl false (.ints .i64 ([] : List Int)), [.pt [.sl false (.ints .u8 l25), .int .i64 n26, .int .i64 n27]])))
        (EqBytes.s (C k) l22 a4 (fun b28 =>
          cond (!b28)
            (CurFail.q (C k) a1 a2 a3 3 (fun l29 n30 n31 =>
              some (.sl false (.ints .i64 ([] : List Int)), [.pt [.sl false (.ints .u8 l29), .int .i64 n30, .int .i64 n31]])))
            (some (.sl false (.ints .i64 a5), [.pt [.sl false (.ints .u8 a1), .int .i64 a2, .int .i64 a3]])))))) := (stop_eq (some 15) _ _ _).trans (by kernel_rfl)
def live23 : Live := fun q a b => match q, a, b with
  | _, _, _ => none
noncomputable def CurEnd.f (C : Nat → CallF) (k : Nat) (x0 : List Int) (x1 : Int) (x2 : Int) := ibody (EE.on sig23) (C k) k live23 sig23 Try.f23 [.pt [.sl false (.ints .u8 x0), .int .i64 x1, .int .i64 x2]]
theorem CurEnd.f_eq (C : Nat → CallF) (k : Nat) (x0 : List Int) (x1 : Int) (x2 : Int) : CurEnd.f C k x0 x1 x2 =
  cond (x2 == 0)
    (CurLeft.q (C k) x0 x1 x2 (fun n1 l2 n3 n4 =>
      cond (decide (n1 > 0))
        (some (.int .i64 2, [.pt [.sl false (.ints .u8 l2), .int .i64 n3, .int .i64 n4]]))
        (some (.int .i64 n4, [.pt [.sl false (.ints .u8 l2), .int .i64 n3, .int .i64 n4]]))))
    (some (.int .i64 x2, [.pt [.sl false (.ints .u8 x0), .int .i64 x1, .int .i64 x2]])) := by kernel_rfl
def live31 : Live := fun q a b => match q, a, b with
  | _, _, _ => none
noncomputable def CurGood.f (C : Nat → CallF) (k : Nat) (x0 : List Int) (x1 : Int) (x2 : Int) := ibody (EE.on sig31) (C k) k live31 sig31 Try.f31 [.pt [.sl false (.ints .u8 x0), .int .i64 x1, .int .i64 x2]]
theorem CurGood.f_eq (C : Nat → CallF) (k : Nat) (x0 : List Int) (x1 : Int) (x2 : Int) : CurGood.f C k x0 x1 x2 =
  some (.bool (x2 == 0), [.pt [.sl false (.ints .u8 x0), .int .i64 x1, .int .i64 x2]]) := by kernel_rfl
def live34 : Live := fun q a b => match q, a, b with
  | _, _, _ => none
noncomputable def CurLeft.f (C : Nat → CallF) (k : Nat) (x0 : List Int) (x1 : Int) (x2 : Int) := ibody (EE.on sig34) (C k) k live34 sig34 Try.f34 [.pt [.sl false (.ints .u8 x0), .int .i64 x1, .int .i64 x2]]
theorem CurLeft.f_eq (C : Nat → CallF) (k : Nat) (x0 : List Int) (x1 : Int) (x2 : Int) : CurLeft.f C k x0 x1 x2 =
  some (.int .i64 (IntKind.i64.wrap ((x0.length : Int) - x1)), [.pt [.sl false (.ints .u8 x0), .int .i64 x1, .int .i64 x2]]) := by kernel_rfl
def live55 : Live := fun q a b => match q, a, b with
  | 9, some 1, some 3 => some [(0, false), (2, false)]
  | 9, some 4, some 6 => some [(0, false), (2, false)]
  | _, _, _ => none
noncomputable def Len32.f (C : Nat → CallF) (k : Nat) (x0 : Int) := ibody (EE.on sig55) (C k) k live55 sig55 Try.f55 [.int .u32 x0]
noncomputable def Len32.e0 (C : Nat → CallF) (k : Nat) (a0 : Int) (a1 : Int) := cutE (EE.on sig55) (C k) k live55 (some 4) [1, 1] [] (bodyOf Try.f55) (kfin (EE.on sig55) sig55 Try.f55) (mkSt 19 [(0, .int .u32 a0), (2, .int .i64 a1)] [] [])
noncomputable def Len32.e1 (C : Nat → CallF) (k : Nat) (a0 : Int) (a1 : Int) := cutE (EE.on sig55) (C k) k live55 (some 7) [1, 1, 1] [] (bodyOf Try.f55) (kfin (EE.on sig55) sig55 Try.f55) (mkSt 19 [(0, .int .u32 a0), (2, .int .i64 a1)] [] [])
theorem Len32.f_eq (C : Nat → CallF) (k : Nat) (x0 : Int) : Len32.f C k x0 =
  cond (decide (x0 ≥ 65536))
    (Len32.e0 C k (x0.fdiv (2 ^ (min (16 : Int).toNat IntKind.u32.bits))) 16)
    (Len32.e0 C k x0 0) := by kernel_rfl
theorem Len32.e0_eq (C : Nat → CallF) (k : Nat) (a0 : Int) (a1 : Int) : Len32.e0 C k a0 a1 =
  cond (decide (a0 ≥ 256))
    (Len32.e1 C k (a0.fdiv (2 ^ (min (8 : Int).toNat IntKind.u32.bits))) (IntKind.i64.wrap (a1 + 8)))
    (Len32.e1 C k a0 a1) := (stop_eq (some 4) _ _ _).trans (by kernel_rfl)
theorem Len32.e1_eq (C : Nat → CallF) (k : Nat) (a0 : Int) (a1 : Int) : Len32.e1 C k a0 a1 =
  if (0 : Int) ≤ (IntKind.u8.wrap a0) then
    (match (⟨#[0, 1, 2, 2, 3, 3, 3, 3, 4, 4, 4, 4, 4, 4, 4, 4, 5, 5, 5, 5, 5, 5, 5, 5, 5, 5, 5, 5, 5, 5, 5, 5, 6, 6, 6, 6, 6, 6, 6, 6, 6, 6, 6, 6, 6, 6, 6, 6, 6, 6, 6, 6, 6, 6, 6, 6, 6, 6, 6, 6, 6, 6, 6, 6, 7, 7, 7, 7, 7, 7, 7, 7, 7, 7, 7, 7, 7, 7, 7, 7, 7, 7, 7, 7, 7, 7, 7, 7, 7, 7, 7, 7, 7, 7, 7, 7, 7, 7, 7, 7, 7, 7, 7, 7, 7, 7, 7, 7, 7, 7, 7, 7, 7, 7, 7, 7, 7, 7, 7, 7, 7, 7, 7, 7, 7, 7, 7, 7, 8, 8, 8, 8, 8, 8, 8, 8, 8, 8, 8, 8, 8, 8, 8, 8, 8, 8, 8, 8, 8, 8, 8, 8, 8, 8, 8, 8, 8, 8, 8, 8, 8, 8, 8, 8, 8, 8, 8, 8, 8, 8, 8, 8, 8, 8, 8, 8, 8, 8, 8, 8, 8, 8, 8, 8, 8, 8, 8, 8, 8, 8, 8, 8, 8, 8, 8, 8, 8, 8, 8, 8, 8, 8, 8, 8, 8, 8, 8, 8, 8, 8, 8, 8, 8, 8, 8, 8, 8, 8, 8, 8, 8, 8, 8, 8, 8, 8, 8, 8, 8, 8, 8, 8, 8, 8, 8, 8, 8, 8, 8, 8, 8, 8, 8, 8, 8, 8, 8, 8, 8, 8, 8, 8, 8, 8, 8, 8]⟩ : ByteArray).data.toList[(IntKind.u8.wrap a0).toNat]? with
      | some b1 => some (.int .i64 (IntKind.i64.wrap (a1 + (IntKind.i64.wrap (b1.toNat : Int)))), [])
      | none => none)
  else none := (stop_eq (some 7) _ _ _).trans (by kernel_rfl)
def live56 : Live := fun q a b => match q, a, b with
  | 4, some 5, some 6 => some [(0, false), (3, false), (4, false)]
  | 9, some 1, some 2 => some [(0, false)]
  | 9, some 4, some 6 => some [(3, false)]
  | _, _, _ => none
noncomputable def MaxInts.f (C : Nat → CallF) (k : Nat) (x0 : List Int) := ibody (EE.on sig56) (C k) k live56 sig56 Try.f56 [.sl false (.ints .i64 x0)]
noncomputable def MaxInts.e0 (C : Nat → CallF) (k : Nat) (a0 : List Int) := cutE (EE.on sig56) (C k) k live56 (some 3) [1, 1] [] (bodyOf Try.f56) (kfin (EE.on sig56) sig56 Try.f56) (mkSt 25 [(0, .sl false (.ints .i64 a0))] [] [])
noncomputable def MaxInts.l0 (C : Nat → CallF) (k j : Nat) (a0 : List Int) (a1 : Int) (a2 : Int) := cutL (EE.on sig56) (C k) k live56 (some 5) [1, 1, 1, 0, 1, 4] [] (bodyOf Try.f56) (kfin (EE.on sig56) sig56 Try.f56) j (mkSt 25 [(0, .sl false (.ints .i64 a0)), (3, .int .i64 a1), (4, .int .i64 a2)] [] [])
noncomputable def MaxInts.e1 (C : Nat → CallF) (k : Nat) (a0 : Int) := cutE (EE.on sig56) (C k) k live56 (some 8) [1, 1, 1, 1] [] (bodyOf Try.f56) (kfin (EE.on sig56) sig56 Try.f56) (mkSt 25 [(3, .int .i64 a0)] [] [])
theorem MaxInts.f_eq (C : Nat → CallF) (k : Nat) (x0 : List Int) : MaxInts.f C k x0 =
  cond (decide ((x0.length : Int) < 1))
    (none)
    (MaxInts.e0 C k x0) := by kernel_rfl
theorem MaxInts.e0_eq (C : Nat → CallF) (k : Nat) (a0 : List Int) : MaxInts.e0 C k a0 =
  if (0 : Int) ≤ 0 then
    (match a0[(0 : Int).toNat]? with
      | some x1 => MaxInts.l0 C k k a0 x1 1
      | none => none)
  else none := (stop_eq (some 3) _ _ _).trans (by kernel_rfl)
theorem MaxInts.l0_eq (C : Nat → CallF) (k j : Nat) (a0 : List Int) (a1 : Int) (a2 : Int) : MaxInts.l0 C k (j + 1) a0 a1 a2 =
  cond (decide (a2 < (a0.length : Int)))
    (if (0 : Int) ≤ a2 then
      (match a0[a2.toNat]? with
        | some x2 => MaxInts.l0 C k j a0 (if x2 > a1 then x2 else a1) (IntKind.i64.wrap (a2 + 1))
        | none => none)
    else none)
    (MaxInts.e1 C k a1) := (stop_eq (some 5) _ _ _).trans (by kernel_rfl)
theorem MaxInts.e1_eq (C : Nat → CallF) (k : Nat) (a0 : Int) : MaxInts.e1 C k a0 =
  some (.int .i64 a0, []) := (stop_eq (some 8) _ _ _).trans (by kernel_rfl)
def live57 : Live := fun q a b => match q, a, b with
  | _, _, _ => none
noncomputable def PackSize.f (C : Nat → CallF) (k : Nat) (x0 : Int) (x1 : Int) := ibody (EE.on sig57) (C k) k live57 sig57 Try.f57 [.int .i64 x0, .int .i64 x1]
theorem PackSize.f_eq (C : Nat → CallF) (k : Nat) (x0 : Int) (x1 : Int) : PackSize.f C k x0 x1 =
  some (.int .i64 (IntKind.i64.wrap ((IntKind.i64.wrap ((IntKind.i64.wrap ((IntKind.i64.wrap (x0 * x1)) + 8)) - 1)).tdiv 8)), []) := by kernel_rfl
def live58 : Live := fun q a b => match q, a, b with
  | _, _, _ => none
noncomputable def HasBad.f (C : Nat → CallF) (k : Nat) (x0 : List Int) := ibody (EE.on sig58) (C k) k live58 sig58 Try.f58 [.sl false (.ints .i64 x0), .fn 59 []]
theorem HasBad.f_eq (C : Nat → CallF) (k : Nat) (x0 : List Int) : HasBad.f C k x0 =
  IdxBad.s (C k) x0 (fun n1 =>
    some (.bool (decide (n1 ≥ 0)), [])) := by kernel_rfl
def live59 : Live := fun q a b => match q, a, b with
  | _, _, _ => none
noncomputable def PackBad.f (C : Nat → CallF) (k : Nat) (x0 : Int) := ibody (EE.on sig59) (C k) k live59 sig59 Try.f59 [.int .i64 x0]
theorem PackBad.f_eq (C : Nat → CallF) (k : Nat) (x0 : Int) : PackBad.f C k x0 =
  cond (decide (x0 < 0))
    (some (.bool true, []))
    (some (.bool (decide (x0 > 4294967295)), [])) := by kernel_rfl
def live60 : Live := fun q a b => match q, a, b with
  | 2, some 4, some 7 => some [(0, false), (3, false), (9, false), (10, false), (11, false)]
  | 4, some 11, some 14 => some [(6, false), (25, false), (26, false), (27, false)]
  | 4, some 3, some 8 => some [(0, false), (3, false), (9, false), (10, false), (11, false)]
  | 9, some 10, some 14 => some [(6, false)]
  | 9, some 2, some 8 => some [(0, false), (3, false)]
  | _, _, _ => none
noncomputable def Concat.f (C : Nat → CallF) (k : Nat) (x0 : List V) := ibody (EE.on sig60) (C k) k live60 sig60 Try.f60 [.sl false (.vals 1 x0)]
noncomputable def Concat.l0 (C : Nat → CallF) (k j : Nat) (a0 : List V) (a1 : Int) (a2 : List V) (a3 : Int) (a4 : Int) := cutL (EE.on sig60) (C k) k live60 (some 3) [1, 1, 0, 1, 4] [] (bodyOf Try.f60) (kfin (EE.on sig60) sig60 Try.f60) j (mkSt 36 [(0, .sl false (.vals 1 a0)), (3, .int .i64 a1), (9, .sl false (.vals 1 a2)), (10, .int .i64 a3), (11, .int .i64 a4)] [] [])
noncomputable def Concat.e0 (C : Nat → CallF) (k j0 : Nat) (a0 : List V) (a1 : Int) (a2 : List V) (a3 : Int) (a4 : Int) := cutE (EE.on sig60) (C k) k live60 (some 8) [1, 1, 0, 1, 4, 5, 1, 1, 1] [j0] (bodyOf Try.f60) (kfin (EE.on sig60) sig60 Try.f60) (mkSt 36 [(0, .sl false (.vals 1 a0)), (3, .int .i64 a1), (9, .sl false (.vals 1 a2)), (10, .int .i64 a3), (11, .int .i64 a4)] [] [])
noncomputable def Concat.e1 (C : Nat → CallF) (k : Nat) (a0 : List V) (a1 : Int) := cutE (EE.on sig60) (C k) k live60 (some 9) [1, 1, 1] [] (bodyOf Try.f60) (kfin (EE.on sig60) sig60 Try.f60) (mkSt 36 [(0, .sl false (.vals 1 a0)), (3, .int .i64 a1)] [] [])
noncomputable def Concat.l1 (C : Nat → CallF) (k j : Nat) (a0 : List V) (a1 : Int) (a2 : Int) (a3 : List Int) := cutL (EE.on sig60) (C k) k live60 (some 11) [1, 1, 1, 1, 0, 1, 4] [] (bodyOf Try.f60) (kfin (EE.on sig60) sig60 Try.f60) j (mkSt 36 [(6, .rs 0), (25, .sl false (.vals 1 a0)), (26, .int .i64 a1), (27, .int .i64 a2)] [.sl true (.ints .u8 a3)] [])
noncomputable def Concat.e2 (C : Nat → CallF) (k : Nat) (a0 : List Int) := cutE (EE.on sig60) (C k) k live60 (some 15) [1, 1, 1, 1, 1] [] (bodyOf Try.f60) (kfin (EE.on sig60) sig60 Try.f60) (mkSt 36 [(6, .rs 0)] [.sl true (.ints .u8 a0)] [])
theorem Concat.f_eq (C : Nat → CallF) (k : Nat) (x0 : List V) : Concat.f C k x0 =
  Concat.l0 C k k x0 0 x0 (x0.length : Int) 0 := by kernel_rfl
theorem Concat.l0_eq (C : Nat → CallF) (k j : Nat) (a0 : List V) (a1 : Int) (a2 : List V) (a3 : Int) (a4 : Int) : Concat.l0 C k (j + 1) a0 a1 a2 a3 a4 =
  cond (decide (a4 < a3))
    (if (0 : Int) ≤ a4 then
      (match a2[a4.toNat]? with
        | some x1 => seeInts false .u8 x1 fun l2 =>
          cond (decide ((IntKind.i64.wrap (a1 + (l2.length : Int))) < 0))
            (none)
            (Concat.e0 C k j a0 (IntKind.i64.wrap (a1 + (l2.length : Int))) a2 a3 a4)
        | none => none)
    else none)
    (Concat.e1 C k a0 a1) := (stop_eq (some 3) _ _ _).trans (by kernel_rfl)
theorem Concat.e0_eq (C : Nat → CallF) (k j0 : Nat) (a0 : List V) (a1 : Int) (a2 : List V) (a3 : Int) (a4 : Int) : Concat.e0 C k j0 a0 a1 a2 a3 a4 =
  Concat.l0 C k j0 a0 a1 a2 a3 (IntKind.i64.wrap (a4 + 1)) := (stop_eq (some 8) _ _ _).trans (by kernel_rfl)
theorem Concat.e1_eq (C : Nat → CallF) (k : Nat) (a0 : List V) (a1 : Int) : Concat.e1 C k a0 a1 =
  GrowB.q (C k) a1 (fun l3 =>
    Concat.l1 C k k a0 (a0.length : Int) 0 l3) := (stop_eq (some 9) _ _ _).trans (by kernel_rfl)
theorem Concat.l1_eq (C : Nat → CallF) (k j : Nat) (a0 : List V) (a1 : Int) (a2 : Int) (a3 : List Int) : Concat.l1 C k (j + 1) a0 a1 a2 a3 =
  cond (decide (a2 < a1))
    (if (0 : Int) ≤ a2 then
      (match a0[a2.toNat]? with
        | some x4 => seeInts false .u8 x4 fun l5 =>
          if a3.length + l5.length ≤ bound ∧ 1 = 1 then
            Concat.l1 C k j a0 a1 (IntKind.i64.wrap (a2 + 1)) (a3 ++ l5)
          else none
        | none => none)
    else none)
    (Concat.e2 C k a3) := (stop_eq (some 11) _ _ _).trans (by kernel_rfl)
theorem Concat.e2_eq (C : Nat → CallF) (k : Nat) (a0 : List Int) : Concat.e2 C k a0 =
  some (.sl true (.ints .u8 a0), []) := (stop_eq (some 15) _ _ _).trans (by kernel_rfl)
def live61 : Live := fun q a b => match q, a, b with
  | 2, some 4, some 5 => some [(0, false), (3, false)]
  | 4, some 4, some 5 => some [(0, false), (3, false)]
  | _, _, _ => none
noncomputable def CurPut.f (C : Nat → CallF) (k : Nat) (x0 : Int) := ibody (EE.on sig61) (C k) k live61 sig61 Try.f61 [.int .i64 x0]
noncomputable def CurPut.l0 (C : Nat → CallF) (k j : Nat) (a0 : Int) (a1 : List Int) := cutL (EE.on sig61) (C k) k live61 (some 4) [1, 1, 1, 0, 4] [] (bodyOf Try.f61) (kfin (EE.on sig61) sig61 Try.f61) j (mkSt 21 [(0, .int .i64 a0), (3, .rs 0)] [.sl true (.ints .u8 a1)] [])
noncomputable def CurPut.e0 (C : Nat → CallF) (k : Nat) (a0 : Int) (a1 : List Int) := cutE (EE.on sig61) (C k) k live61 (some 7) [1, 1, 1, 1] [] (bodyOf Try.f61) (kfin (EE.on sig61) sig61 Try.f61) (mkSt 21 [(0, .int .i64 a0), (3, .rs 0)] [.sl true (.ints .u8 a1)] [])
theorem CurPut.f_eq (C : Nat → CallF) (k : Nat) (x0 : Int) : CurPut.f C k x0 =
  cond (decide (x0 < 0))
    (some (.sl true (.ints .u8 ([] : List Int)), []))
    (CurPut.l0 C k k x0 ([] : List Int)) := by kernel_rfl
theorem CurPut.l0_eq (C : Nat → CallF) (k j : Nat) (a0 : Int) (a1 : List Int) : CurPut.l0 C k (j + 1) a0 a1 =
  cond (decide (a0 ≥ 128))
    (if a1.length + [(IntKind.u8.wrap ((BitVec.ofInt IntKind.u8.bits (IntKind.u8.wrap a0) ||| BitVec.ofInt IntKind.u8.bits 128).toNat))].length ≤ bound ∧ 1 = 1 then
      CurPut.l0 C k j (a0.fdiv (2 ^ (min (7 : Int).toNat IntKind.i64.bits))) (a1 ++ [(IntKind.u8.wrap ((BitVec.ofInt IntKind.u8.bits (IntKind.u8.wrap a0) ||| BitVec.ofInt IntKind.u8.bits 128).toNat))])
    else none)
    (CurPut.e0 C k a0 a1) := (stop_eq (some 4) _ _ _).trans (by kernel_rfl)
theorem CurPut.e0_eq (C : Nat → CallF) (k : Nat) (a0 : Int) (a1 : List Int) : CurPut.e0 C k a0 a1 =
  if a1.length + [(IntKind.u8.wrap a0)].length ≤ bound ∧ 1 = 1 then
    some (.sl true (.ints .u8 (a1 ++ [(IntKind.u8.wrap a0)])), [])
  else none := (stop_eq (some 7) _ _ _).trans (by kernel_rfl)
def live63 : Live := fun q a b => match q, a, b with
  | _, _, _ => none
noncomputable def CurMost.f (C : Nat → CallF) (k : Nat) (x0 : List Int) (x1 : Int) (x2 : Int) (x3 : Int) := ibody (EE.on sig63) (C k) k live63 sig63 Try.f63 [.pt [.sl false (.ints .u8 x0), .int .i64 x1, .int .i64 x2], .int .i64 x3]
theorem CurMost.f_eq (C : Nat → CallF) (k : Nat) (x0 : List Int) (x1 : Int) (x2 : Int) (x3 : Int) : CurMost.f C k x0 x1 x2 x3 =
  CurNumber.q (C k) x0 x1 x2 (fun n1 l2 n3 n4 =>
    cond (decide (n1 > x3))
      (CurFail.q (C k) l2 x1 n4 3 (fun l5 n6 n7 =>
        some (.int .i64 0, [.pt [.sl false (.ints .u8 l5), .int .i64 n6, .int .i64 n7]])))
      (some (.int .i64 n1, [.pt [.sl false (.ints .u8 l2), .int .i64 n3, .int .i64 n4]]))) := by kernel_rfl
def live64 : Live := fun q a b => match q, a, b with
  | _, _, _ => none
noncomputable def CurByte.f (C : Nat → CallF) (k : Nat) (x0 : List Int) (x1 : Int) (x2 : Int) := ibody (EE.on sig64) (C k) k live64 sig64 Try.f64 [.pt [.sl false (.ints .u8 x0), .int .i64 x1, .int .i64 x2]]
theorem CurByte.f_eq (C : Nat → CallF) (k : Nat) (x0 : List Int) (x1 : Int) (x2 : Int) : CurByte.f C k x0 x1 x2 =
  CurBytes.q (C k) x0 x1 x2 1 (fun l1 l2 n3 n4 =>
    cond ((l1.length : Int) == 1)
      (if (0 : Int) ≤ 0 then
        if (0 : Int) < (l1.length : Int) ∧ 1 = 1 then
          (match l1[(0 : Int).toNat]? with
            | some x5 => some (.int .i64 (IntKind.i64.wrap x5), [.pt [.sl false (.ints .u8 l2), .int .i64 n3, .int .i64 n4]])
            | none => none)
        else none
      else none)
      (some (.int .i64 0, [.pt [.sl false (.ints .u8 l2), .int .i64 n3, .int .i64 n4]]))) := by kernel_rfl
def live65 : Live := fun q a b => match q, a, b with
  | _, _, _ => none
noncomputable def CurFail.f (C : Nat → CallF) (k : Nat) (x0 : List Int) (x1 : Int) (x2 : Int) (x3 : Int) := ibody (EE.on sig65) (C k) k live65 sig65 Try.f65 [.pt [.sl false (.ints .u8 x0), .int .i64 x1, .int .i64 x2], .int .i64 x3]
theorem CurFail.f_eq (C : Nat → CallF) (k : Nat) (x0 : List Int) (x1 : Int) (x2 : Int) (x3 : Int) : CurFail.f C k x0 x1 x2 x3 =
  cond (x2 == 0)
    (some (.tup [], [.pt [.sl false (.ints .u8 x0), .int .i64 x1, .int .i64 x3]]))
    (some (.tup [], [.pt [.sl false (.ints .u8 x0), .int .i64 x1, .int .i64 x2]])) := by kernel_rfl
def live66 : Live := fun q a b => match q, a, b with
  | _, _, _ => none
noncomputable def CurBytes.f (C : Nat → CallF) (k : Nat) (x0 : List Int) (x1 : Int) (x2 : Int) (x3 : Int) := ibody (EE.on sig66) (C k) k live66 sig66 Try.f66 [.pt [.sl false (.ints .u8 x0), .int .i64 x1, .int .i64 x2], .int .i64 x3]
theorem CurBytes.f_eq (C : Nat → CallF) (k : Nat) (x0 : List Int) (x1 : Int) (x2 : Int) (x3 : Int) : CurBytes.f C k x0 x1 x2 x3 =
  cond (x2 != 0)
    (some (.sl true (.ints .u8 ([] : List Int)), [.pt [.sl false (.ints .u8 x0), .int .i64 x1, .int .i64 x2]]))
    (cond (decide (x3 < 0))
      (CurFail.q (C k) x0 x1 x2 3 (fun l1 n2 n3 =>
        some (.sl true (.ints .u8 ([] : List Int)), [.pt [.sl false (.ints .u8 l1), .int .i64 n2, .int .i64 n3]])))
      (CurLeft.q (C k) x0 x1 x2 (fun n4 l5 n6 n7 =>
        cond (decide (x3 > n4))
          (CurFail.q (C k) l5 n6 n7 2 (fun l8 n9 n10 =>
            some (.sl true (.ints .u8 ([] : List Int)), [.pt [.sl false (.ints .u8 l8), .int .i64 n9, .int .i64 n10]])))
          (if (0 : Int) ≤ (IntKind.i64.wrap ((IntKind.i64.wrap (n6 + x3)) - x3)) ∧ (IntKind.i64.wrap ((IntKind.i64.wrap (n6 + x3)) - x3)) ≤ (IntKind.i64.wrap (n6 + x3)) ∧ (IntKind.i64.wrap (n6 + x3)) ≤ (l5.length : Int) ∧ (IntKind.i64.wrap (n6 + x3)) = (IntKind.i64.wrap (n6 + x3)) ∧ 1 = 1 then
            CloneB.q (C k) ((l5.take (IntKind.i64.wrap (n6 + x3)).toNat).drop (IntKind.i64.wrap ((IntKind.i64.wrap (n6 + x3)) - x3)).toNat) (fun l11 =>
              some (.sl true (.ints .u8 l11), [.pt [.sl false (.ints .u8 l5), .int .i64 (IntKind.i64.wrap (n6 + x3)), .int .i64 n7]]))
          else none)))) := by kernel_rfl
def live67 : Live := fun q a b => match q, a, b with
  | 4, some 4, some 8 => some [(0, false), (1, false), (12, false), (13, false)]
  | 9, some 3, some 8 => some []
  | _, _, _ => none
noncomputable def EqBytes.f (C : Nat → CallF) (k : Nat) (x0 : List Int) (x1 : List Int) := ibody (EE.on sig67) (C k) k live67 sig67 Try.f67 [.sl false (.ints .u8 x0), .sl false (.ints .u8 x1)]
noncomputable def EqBytes.l0 (C : Nat → CallF) (k j : Nat) (a0 : List Int) (a1 : List Int) (a2 : Int) (a3 : Int) := cutL (EE.on sig67) (C k) k live67 (some 4) [1, 1, 0, 1, 4] [] (bodyOf Try.f67) (kfin (EE.on sig67) sig67 Try.f67) j (mkSt 26 [(0, .sl false (.ints .u8 a0)), (1, .sl false (.ints .u8 a1)), (12, .int .i64 a2), (13, .int .i64 a3)] [] [])
noncomputable def EqBytes.e0 (C : Nat → CallF) (k : Nat) := cutE (EE.on sig67) (C k) k live67 (some 9) [1, 1, 1] [] (bodyOf Try.f67) (kfin (EE.on sig67) sig67 Try.f67) (mkSt 26 [] [] [])
theorem EqBytes.f_eq (C : Nat → CallF) (k : Nat) (x0 : List Int) (x1 : List Int) : EqBytes.f C k x0 x1 =
  cond ((x0.length : Int) != (x1.length : Int))
    (some (.bool false, []))
    (EqBytes.l0 C k k x0 x1 (x0.length : Int) 0) := by kernel_rfl
theorem EqBytes.l0_eq (C : Nat → CallF) (k j : Nat) (a0 : List Int) (a1 : List Int) (a2 : Int) (a3 : Int) : EqBytes.l0 C k (j + 1) a0 a1 a2 a3 =
  cond (decide (a3 < a2))
    (if (0 : Int) ≤ a3 then
      (match a0[a3.toNat]? with
        | some x1 => if (0 : Int) ≤ a3 then
          (match a1[a3.toNat]? with
            | some x2 => cond (x1 != x2)
              (some (.bool false, []))
              (EqBytes.l0 C k j a0 a1 a2 (IntKind.i64.wrap (a3 + 1)))
            | none => none)
        else none
        | none => none)
    else none)
    (EqBytes.e0 C k) := (stop_eq (some 4) _ _ _).trans (by kernel_rfl)
theorem EqBytes.e0_eq (C : Nat → CallF) (k : Nat) : EqBytes.e0 C k =
  some (.bool true, []) := (stop_eq (some 9) _ _ _).trans (by kernel_rfl)
def live93 : Live := fun q a b => match q, a, b with
  | 4, some 2, some 6 => some [(0, false), (1, false), (7, false), (8, false)]
  | 9, some 1, some 6 => some []
  | _, _, _ => none
noncomputable def IdxBad.f (C : Nat → CallF) (k : Nat) (x0 : List Int) := ibody (EE.on sig93) (C k) k live93 sig93 Try.f93 [.sl false (.ints .i64 x0), .fn 59 []]
noncomputable def IdxBad.l0 (C : Nat → CallF) (k j : Nat) (a0 : List Int) (a1 : Int) (a2 : Int) := cutL (EE.on sig93) (C k) k live93 (some 2) [1, 0, 1, 4] [] (bodyOf Try.f93) (kfin (EE.on sig93) sig93 Try.f93) j (mkSt 19 [(0, .sl false (.ints .i64 a0)), (1, .fn 59 []), (7, .int .i64 a1), (8, .int .i64 a2)] [] [])
noncomputable def IdxBad.e0 (C : Nat → CallF) (k : Nat) := cutE (EE.on sig93) (C k) k live93 (some 7) [1, 1] [] (bodyOf Try.f93) (kfin (EE.on sig93) sig93 Try.f93) (mkSt 19 [] [] [])
theorem IdxBad.f_eq (C : Nat → CallF) (k : Nat) (x0 : List Int) : IdxBad.f C k x0 =
  IdxBad.l0 C k k x0 (x0.length : Int) 0 := by kernel_rfl
theorem IdxBad.l0_eq (C : Nat → CallF) (k j : Nat) (a0 : List Int) (a1 : Int) (a2 : Int) : IdxBad.l0 C k (j + 1) a0 a1 a2 =
  cond (decide (a2 < a1))
    (if (0 : Int) ≤ a2 then
      (match a0[a2.toNat]? with
        | some x1 => PackBad.s (C k) x1 (fun b2 =>
          cond b2
            (some (.int .i64 a2, []))
            (IdxBad.l0 C k j a0 a1 (IntKind.i64.wrap (a2 + 1))))
        | none => none)
    else none)
    (IdxBad.e0 C k) := (stop_eq (some 2) _ _ _).trans (by kernel_rfl)
theorem IdxBad.e0_eq (C : Nat → CallF) (k : Nat) : IdxBad.e0 C k =
  some (.int .i64 (-1), []) := (stop_eq (some 7) _ _ _).trans (by kernel_rfl)
def live95 : Live := fun q a b => match q, a, b with
  | 4, some 5, some 17 => some [(0, false), (3, false), (19, false), (20, false), (21, false)]
  | 9, some 4, some 17 => some [(0, false)]
  | _, _, _ => none
noncomputable def CurNumber.f (C : Nat → CallF) (k : Nat) (x0 : List Int) (x1 : Int) (x2 : Int) := ibody (EE.on sig95) (C k) k live95 sig95 Try.f95 [.pt [.sl false (.ints .u8 x0), .int .i64 x1, .int .i64 x2]]
noncomputable def CurNumber.l0 (C : Nat → CallF) (k j : Nat) (a0 : Int) (a1 : List Int) (a2 : Int) (a3 : Int) (a4 : List Int) (a5 : Int) (a6 : Int) := cutL (EE.on sig95) (C k) k live95 (some 5) [1, 1, 1, 0, 1, 4] [] (bodyOf Try.f95) (kfin (EE.on sig95) sig95 Try.f95) j (mkSt 61 [(0, .pr 0 0), (3, .int .i64 a0), (19, .sl false (.ints .u8 a1)), (20, .int .i64 a2), (21, .int .i64 a3)] [.pt [.sl false (.ints .u8 a4), .int .i64 a5, .int .i64 a6]] [0])
noncomputable def CurNumber.e0 (C : Nat → CallF) (k : Nat) (a0 : List Int) (a1 : Int) (a2 : Int) := cutE (EE.on sig95) (C k) k live95 (some 18) [1, 1, 1, 1] [] (bodyOf Try.f95) (kfin (EE.on sig95) sig95 Try.f95) (mkSt 61 [(0, .pr 0 0)] [.pt [.sl false (.ints .u8 a0), .int .i64 a1, .int .i64 a2]] [0])
theorem CurNumber.f_eq (C : Nat → CallF) (k : Nat) (x0 : List Int) (x1 : Int) (x2 : Int) : CurNumber.f C k x0 x1 x2 =
  cond (x2 != 0)
    (some (.int .i64 0, [.pt [.sl false (.ints .u8 x0), .int .i64 x1, .int .i64 x2]]))
    (if (0 : Int) ≤ x1 ∧ x1 ≤ (x0.length : Int) ∧ (x0.length : Int) ≤ (x0.length : Int) ∧ (x0.length : Int) = (x0.length : Int) ∧ 1 = 1 then
      CurNumber.l0 C k k 0 ((x0.take (x0.length : Int).toNat).drop x1.toNat) (((x0.take (x0.length : Int).toNat).drop x1.toNat).length : Int) 0 x0 x1 x2
    else none) := by kernel_rfl
theorem CurNumber.l0_eq (C : Nat → CallF) (k j : Nat) (a0 : Int) (a1 : List Int) (a2 : Int) (a3 : Int) (a4 : List Int) (a5 : Int) (a6 : Int) : CurNumber.l0 C k (j + 1) a0 a1 a2 a3 a4 a5 a6 =
  cond (decide (a3 < a2))
    (if (0 : Int) ≤ a3 then
      (match a1[a3.toNat]? with
        | some x1 => cond (a3 == 9)
          (CurFail.q (C k) a4 a5 a6 3 (fun l2 n3 n4 =>
            some (.int .i64 0, [.pt [.sl false (.ints .u8 l2), .int .i64 n3, .int .i64 n4]])))
          (if (IntKind.i64.wrap (7 * a3)) < 0 then none else
            cond (decide (x1 < 128))
              (cond (x1 == 0)
                (cond (decide (a3 > 0))
                  (CurFail.q (C k) a4 a5 a6 3 (fun l5 n6 n7 =>
                    some (.int .i64 0, [.pt [.sl false (.ints .u8 l5), .int .i64 n6, .int .i64 n7]])))
                  (some (.int .i64 (IntKind.i64.wrap ((BitVec.ofInt IntKind.i64.bits a0 ||| BitVec.ofInt IntKind.i64.bits (IntKind.i64.wrap ((IntKind.i64.wrap (IntKind.u8.wrap ((BitVec.ofInt IntKind.u8.bits x1 &&& BitVec.ofInt IntKind.u8.bits 127).toNat))) * 2 ^ (min (IntKind.i64.wrap (7 * a3)).toNat IntKind.i64.bits)))).toNat)), [.pt [.sl false (.ints .u8 a4), .int .i64 (IntKind.i64.wrap (a5 + (IntKind.i64.wrap (a3 + 1)))), .int .i64 a6]])))
                (some (.int .i64 (IntKind.i64.wrap ((BitVec.ofInt IntKind.i64.bits a0 ||| BitVec.ofInt IntKind.i64.bits (IntKind.i64.wrap ((IntKind.i64.wrap (IntKind.u8.wrap ((BitVec.ofInt IntKind.u8.bits x1 &&& BitVec.ofInt IntKind.u8.bits 127).toNat))) * 2 ^ (min (IntKind.i64.wrap (7 * a3)).toNat IntKind.i64.bits)))).toNat)), [.pt [.sl false (.ints .u8 a4), .int .i64 (IntKind.i64.wrap (a5 + (IntKind.i64.wrap (a3 + 1)))), .int .i64 a6]])))
              (CurNumber.l0 C k j (IntKind.i64.wrap ((BitVec.ofInt IntKind.i64.bits a0 ||| BitVec.ofInt IntKind.i64.bits (IntKind.i64.wrap ((IntKind.i64.wrap (IntKind.u8.wrap ((BitVec.ofInt IntKind.u8.bits x1 &&& BitVec.ofInt IntKind.u8.bits 127).toNat))) * 2 ^ (min (IntKind.i64.wrap (7 * a3)).toNat IntKind.i64.bits)))).toNat)) a1 a2 (IntKind.i64.wrap (a3 + 1)) a4 a5 a6))
        | none => none)
    else none)
    (CurNumber.e0 C k a4 a5 a6) := (stop_eq (some 5) _ _ _).trans (by kernel_rfl)
theorem CurNumber.e0_eq (C : Nat → CallF) (k : Nat) (a0 : List Int) (a1 : Int) (a2 : Int) : CurNumber.e0 C k a0 a1 a2 =
  CurFail.q (C k) a0 a1 a2 2 (fun l8 n9 n10 =>
    some (.int .i64 0, [.pt [.sl false (.ints .u8 l8), .int .i64 n9, .int .i64 n10]])) := (stop_eq (some 18) _ _ _).trans (by kernel_rfl)
/-- the table's equations for these functions -/
structure EqFnP (C : Nat → CallF) : Prop where
  Awake03 : ∀ (k : Nat), C (k + 1) 15 [] = Awake03.f C k
  Width : ∀ (k : Nat) (x0 : List Int), C (k + 1) 16 [.sl false (.ints .i64 x0)] = Width.f C k x0
  PackPut : ∀ (k : Nat) (x0 : List Int) (x1 : Int), C (k + 1) 17 [.sl false (.ints .i64 x0), .int .i64 x1] = PackPut.f C k x0 x1
  PackWrite : ∀ (k : Nat) (x0 : List Int), C (k + 1) 18 [.sl false (.ints .i64 x0)] = PackWrite.f C k x0
  PackGet : ∀ (k : Nat) (x0 : List Int) (x1 : Int) (x2 : Int), C (k + 1) 19 [.sl false (.ints .u8 x0), .int .i64 x1, .int .i64 x2] = PackGet.f C k x0 x1 x2
  CurNew : ∀ (k : Nat) (x0 : List Int), C (k + 1) 20 [.sl false (.ints .u8 x0)] = CurNew.f C k x0
  RefInts : ∀ (k : Nat) (x0 : List Int) (x1 : List Int), C (k + 1) 21 [.sl false (.ints .i64 x0), .sl false (.ints .i64 x1)] = RefInts.f C k x0 x1
  PackRead : ∀ (k : Nat) (x0 : List Int) (x1 : Int) (x2 : Int) (x3 : Int), C (k + 1) 22 [.pt [.sl false (.ints .u8 x0), .int .i64 x1, .int .i64 x2], .int .i64 x3] = PackRead.f C k x0 x1 x2 x3
  CurEnd : ∀ (k : Nat) (x0 : List Int) (x1 : Int) (x2 : Int), C (k + 1) 23 [.pt [.sl false (.ints .u8 x0), .int .i64 x1, .int .i64 x2]] = CurEnd.f C k x0 x1 x2
  CurGood : ∀ (k : Nat) (x0 : List Int) (x1 : Int) (x2 : Int), C (k + 1) 31 [.pt [.sl false (.ints .u8 x0), .int .i64 x1, .int .i64 x2]] = CurGood.f C k x0 x1 x2
  CurLeft : ∀ (k : Nat) (x0 : List Int) (x1 : Int) (x2 : Int), C (k + 1) 34 [.pt [.sl false (.ints .u8 x0), .int .i64 x1, .int .i64 x2]] = CurLeft.f C k x0 x1 x2
  Len32 : ∀ (k : Nat) (x0 : Int), C (k + 1) 55 [.int .u32 x0] = Len32.f C k x0
  MaxInts : ∀ (k : Nat) (x0 : List Int), C (k + 1) 56 [.sl false (.ints .i64 x0)] = MaxInts.f C k x0
  PackSize : ∀ (k : Nat) (x0 : Int) (x1 : Int), C (k + 1) 57 [.int .i64 x0, .int .i64 x1] = PackSize.f C k x0 x1
  HasBad : ∀ (k : Nat) (x0 : List Int), C (k + 1) 58 [.sl false (.ints .i64 x0), .fn 59 []] = HasBad.f C k x0
  PackBad : ∀ (k : Nat) (x0 : Int), C (k + 1) 59 [.int .i64 x0] = PackBad.f C k x0
  Concat : ∀ (k : Nat) (x0 : List V), C (k + 1) 60 [.sl false (.vals 1 x0)] = Concat.f C k x0
  CurPut : ∀ (k : Nat) (x0 : Int), C (k + 1) 61 [.int .i64 x0] = CurPut.f C k x0
  CurMost : ∀ (k : Nat) (x0 : List Int) (x1 : Int) (x2 : Int) (x3 : Int), C (k + 1) 63 [.pt [.sl false (.ints .u8 x0), .int .i64 x1, .int .i64 x2], .int .i64 x3] = CurMost.f C k x0 x1 x2 x3
  CurByte : ∀ (k : Nat) (x0 : List Int) (x1 : Int) (x2 : Int), C (k + 1) 64 [.pt [.sl false (.ints .u8 x0), .int .i64 x1, .int .i64 x2]] = CurByte.f C k x0 x1 x2
  CurFail : ∀ (k : Nat) (x0 : List Int) (x1 : Int) (x2 : Int) (x3 : Int), C (k + 1) 65 [.pt [.sl false (.ints .u8 x0), .int .i64 x1, .int .i64 x2], .int .i64 x3] = CurFail.f C k x0 x1 x2 x3
  CurBytes : ∀ (k : Nat) (x0 : List Int) (x1 : Int) (x2 : Int) (x3 : Int), C (k + 1) 66 [.pt [.sl false (.ints .u8 x0), .int .i64 x1, .int .i64 x2], .int .i64 x3] = CurBytes.f C k x0 x1 x2 x3
  EqBytes : ∀ (k : Nat) (x0 : List Int) (x1 : List Int), C (k + 1) 67 [.sl false (.ints .u8 x0), .sl false (.ints .u8 x1)] = EqBytes.f C k x0 x1
  IdxBad : ∀ (k : Nat) (x0 : List Int), C (k + 1) 93 [.sl false (.ints .i64 x0), .fn 59 []] = IdxBad.f C k x0
  CurNumber : ∀ (k : Nat) (x0 : List Int) (x1 : Int) (x2 : Int), C (k + 1) 95 [.pt [.sl false (.ints .u8 x0), .int .i64 x1, .int .i64 x2]] = CurNumber.f C k x0 x1 x2
end Go.Proofs.Ytfkkigbbejhfbaa
