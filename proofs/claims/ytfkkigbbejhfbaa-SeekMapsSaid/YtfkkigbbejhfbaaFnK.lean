/- Step equations of some functions. -/
import Derived.Test.YtfkkigbbejhfbaaTab
namespace Go.Proofs.Ytfkkigbbejhfbaa
open Go Idl
set_option maxRecDepth 100000
set_option linter.unusedVariables false
def live38 : Live := fun q a b => match q, a, b with
  | _, _, _ => none
noncomputable def Dict14.f (C : Nat → CallF) (k : Nat) (x0 : List ByteArray) := ibody (EE.on sig38) (C k) k live38 sig38 Try.f38 [.sl false (.strs x0)]
theorem Dict14.f_eq (C : Nat → CallF) (k : Nat) (x0 : List ByteArray) : Dict14.f C k x0 =
  Few13.s (C k) x0 (fun b1 =>
    cond (!b1)
      (some (.tup [.nilp, .sl false (.strs ([] : List ByteArray)), .bool false], []))
      (RefSorted.s (C k) x0 (fun l2 =>
        RefRight.s (C k) l2 4 (fun b3 =>
          cond (!b3)
            (some (.tup [.nilp, .sl false (.strs ([] : List ByteArray)), .bool false], []))
            (RefBuild.q (C k) l2 4 (fun l4 =>
              CurNew.q (C k) l4 (fun l5 n6 n7 =>
                FrontOpen.q (C k) l5 n6 n7 (fun l8 l9 n10 n11 =>
                  DictLen.s (C k) l8 (fun n12 =>
                    some (.tup [.pv [.sl false (.strs l8)] 0, .sl false (.strs l2), .bool (n12 == (l2.length : Int))], [])))))))))) := by kernel_rfl
def live41 : Live := fun q a b => match q, a, b with
  | _, _, _ => none
noncomputable def SeekCode.f (C : Nat → CallF) (k : Nat) (x0 : List ByteArray) (x1 : ByteArray) := ibody (EE.on sig41) (C k) k live41 sig41 Try.f41 [.pv [.sl false (.strs x0)] 0, .str x1]
theorem SeekCode.f_eq (C : Nat → CallF) (k : Nat) (x0 : List ByteArray) (x1 : ByteArray) : SeekCode.f C k x0 x1 =
  SeekLower.s (C k) x0 x1 (fun n1 =>
    DictLen.s (C k) x0 (fun n2 =>
      cond (n1 == n2)
        (some (.tup [.int .i64 0, .bool false], []))
        (DictAt.s (C k) x0 n1 (fun s3 =>
          cond (!(s3.toList == x1.toList))
            (some (.tup [.int .i64 0, .bool false], []))
            (some (.tup [.int .i64 n1, .bool true], [])))))) := by kernel_rfl
def live42 : Live := fun q a b => match q, a, b with
  | _, _, _ => none
noncomputable def SeekLower.f (C : Nat → CallF) (k : Nat) (x0 : List ByteArray) (x1 : ByteArray) := ibody (EE.on sig42) (C k) k live42 sig42 Try.f42 [.pv [.sl false (.strs x0)] 0, .str x1]
theorem SeekLower.f_eq (C : Nat → CallF) (k : Nat) (x0 : List ByteArray) (x1 : ByteArray) : SeekLower.f C k x0 x1 =
  DictLen.s (C k) x0 (fun n1 =>
    SearchL.s (C k) n1 x0 x1 (fun n2 =>
      some (.int .i64 n2, []))) := by kernel_rfl
def live43 : Live := fun q a b => match q, a, b with
  | _, _, _ => none
noncomputable def SeekUpper.f (C : Nat → CallF) (k : Nat) (x0 : List ByteArray) (x1 : ByteArray) := ibody (EE.on sig43) (C k) k live43 sig43 Try.f43 [.pv [.sl false (.strs x0)] 0, .str x1]
theorem SeekUpper.f_eq (C : Nat → CallF) (k : Nat) (x0 : List ByteArray) (x1 : ByteArray) : SeekUpper.f C k x0 x1 =
  DictLen.s (C k) x0 (fun n1 =>
    SearchU.s (C k) n1 x0 x1 (fun n2 =>
      some (.int .i64 n2, []))) := by kernel_rfl
def live44 : Live := fun q a b => match q, a, b with
  | 0, some 1, some 1 => some [(2, true), (3, true), (6, true)]
  | _, _, _ => none
noncomputable def SeekPrefix.f (C : Nat → CallF) (k : Nat) (x0 : List ByteArray) (x1 : ByteArray) := ibody (EE.on sig44) (C k) k live44 sig44 Try.f44 [.pv [.sl false (.strs x0)] 0, .str x1]
noncomputable def SeekPrefix.e0 (C : Nat → CallF) (k : Nat) (a0 : List ByteArray) (a1 : ByteArray) (a2 : Int) := cutE (EE.on sig44) (C k) k live44 (some 2) [1, 1] [] (bodyOf Try.f44) (kfin (EE.on sig44) sig44 Try.f44) (mkSt 21 [(2, .pv [.pv [.sl false (.strs a0)] 0] 0), (3, .pv [.str a1] 0), (6, .pv [.int .i64 a2] 0)] [] [])
theorem SeekPrefix.f_eq (C : Nat → CallF) (k : Nat) (x0 : List ByteArray) (x1 : ByteArray) : SeekPrefix.f C k x0 x1 =
  SeekLower.s (C k) x0 x1 (fun n1 =>
    SeekPrefix.e0 C k x0 x1 n1) := by kernel_rfl
theorem SeekPrefix.e0_eq (C : Nat → CallF) (k : Nat) (a0 : List ByteArray) (a1 : ByteArray) (a2 : Int) : SeekPrefix.e0 C k a0 a1 a2 =
  DictLen.s (C k) a0 (fun n2 =>
    SearchP.s (C k) (IntKind.i64.wrap (n2 - a2)) a0 a2 a1 (fun n3 =>
      some (.tup [.int .i64 a2, .int .i64 (IntKind.i64.wrap (a2 + n3))], []))) := (stop_eq (some 2) _ _ _).trans (by kernel_rfl)
def live45 : Live := fun q a b => match q, a, b with
  | _, _, _ => none
noncomputable def HasPre.f (C : Nat → CallF) (k : Nat) (x0 : ByteArray) (x1 : ByteArray) := ibody (EE.on sig45) (C k) k live45 sig45 Try.f45 [.str x0, .str x1]
theorem HasPre.f_eq (C : Nat → CallF) (k : Nat) (x0 : ByteArray) (x1 : ByteArray) : HasPre.f C k x0 x1 =
  HasPreL.s (C k) x0 x1 (fun b1 =>
    some (.bool b1, [])) := by kernel_rfl
def live46 : Live := fun q a b => match q, a, b with
  | 2, some 4, some 8 => some [(1, false), (5, false), (11, false), (12, false), (13, false)]
  | 4, some 3, some 9 => some [(1, false), (5, false), (11, false), (12, false), (13, false)]
  | 9, some 2, some 9 => some [(5, false)]
  | 9, some 6, some 7 => some [(1, false), (5, false), (8, false), (11, false), (12, false), (13, false)]
  | _, _, _ => none
noncomputable def SeekMap.f (C : Nat → CallF) (k : Nat) (x0 : List ByteArray) (x1 : List ByteArray) := ibody (EE.on sig46) (C k) k live46 sig46 Try.f46 [.pv [.sl false (.strs x0)] 0, .pv [.sl false (.strs x1)] 0]
noncomputable def SeekMap.l0 (C : Nat → CallF) (k j : Nat) (a0 : List ByteArray) (a1 : Int) (a2 : Int) (a3 : List Int) (a4 : List ByteArray) := cutL (EE.on sig46) (C k) k live46 (some 3) [1, 1, 0, 1, 4] [] (bodyOf Try.f46) (kfin (EE.on sig46) sig46 Try.f46) j (mkSt 31 [(1, .pv [.sl false (.strs a0)] 0), (5, .rs 0), (11, .rs 1), (12, .int .i64 a1), (13, .int .i64 a2)] [.sl true (.ints .i64 a3), .sl true (.strs a4)] [])
noncomputable def SeekMap.e0 (C : Nat → CallF) (k j0 : Nat) (a0 : List ByteArray) (a1 : Int) (a2 : Int) (a3 : Int) (a4 : List Int) (a5 : List ByteArray) := cutE (EE.on sig46) (C k) k live46 (some 8) [1, 1, 0, 1, 4, 5, 1, 1, 0, 4, 1, 1, 1] [j0] (bodyOf Try.f46) (kfin (EE.on sig46) sig46 Try.f46) (mkSt 31 [(1, .pv [.sl false (.strs a0)] 0), (5, .rs 0), (8, .int .i64 a1), (11, .rs 1), (12, .int .i64 a2), (13, .int .i64 a3)] [.sl true (.ints .i64 a4), .sl true (.strs a5)] [])
noncomputable def SeekMap.e1 (C : Nat → CallF) (k : Nat) (a0 : List Int) := cutE (EE.on sig46) (C k) k live46 (some 10) [1, 1, 1] [] (bodyOf Try.f46) (kfin (EE.on sig46) sig46 Try.f46) (mkSt 31 [(5, .rs 0)] [.sl true (.ints .i64 a0)] [])
noncomputable def SeekMap.e2 (C : Nat → CallF) (k j0 : Nat) (a0 : List ByteArray) (a1 : Int) (a2 : Int) (a3 : List Int) (a4 : List ByteArray) := cutE (EE.on sig46) (C k) k live46 (some 9) [1, 1, 0, 1, 4, 5, 1, 1, 1] [j0] (bodyOf Try.f46) (kfin (EE.on sig46) sig46 Try.f46) (mkSt 31 [(1, .pv [.sl false (.strs a0)] 0), (5, .rs 0), (11, .rs 1), (12, .int .i64 a1), (13, .int .i64 a2)] [.sl true (.ints .i64 a3), .sl true (.strs a4)] [])
theorem SeekMap.f_eq (C : Nat → CallF) (k : Nat) (x0 : List ByteArray) (x1 : List ByteArray) : SeekMap.f C k x0 x1 =
  DictAll.q (C k) x0 (fun l1 =>
    SeekMap.l0 C k k x1 (l1.length : Int) 0 ([] : List Int) l1) := by kernel_rfl
theorem SeekMap.l0_eq (C : Nat → CallF) (k j : Nat) (a0 : List ByteArray) (a1 : Int) (a2 : Int) (a3 : List Int) (a4 : List ByteArray) : SeekMap.l0 C k (j + 1) a0 a1 a2 a3 a4 =
  cond (decide (a2 < a1))
    (if (0 : Int) ≤ a2 then
      if a2 < (a4.length : Int) ∧ 1 = 1 then
        (match a4[a2.toNat]? with
          | some x2 => SeekCode.s (C k) a0 x2 (fun n3 b4 =>
            cond (!b4)
              (SeekMap.e0 C k j a0 (-1) a1 a2 a3 a4)
              (SeekMap.e0 C k j a0 n3 a1 a2 a3 a4))
          | none => none)
      else none
    else none)
    (SeekMap.e1 C k a3) := (stop_eq (some 3) _ _ _).trans (by kernel_rfl)
theorem SeekMap.e0_eq (C : Nat → CallF) (k j0 : Nat) (a0 : List ByteArray) (a1 : Int) (a2 : Int) (a3 : Int) (a4 : List Int) (a5 : List ByteArray) : SeekMap.e0 C k j0 a0 a1 a2 a3 a4 a5 =
  if a4.length + [a1].length ≤ bound ∧ 1 = 1 then
    SeekMap.e2 C k j0 a0 a2 a3 (a4 ++ [a1]) a5
  else none := (stop_eq (some 8) _ _ _).trans (by kernel_rfl)
theorem SeekMap.e1_eq (C : Nat → CallF) (k : Nat) (a0 : List Int) : SeekMap.e1 C k a0 =
  some (.sl true (.ints .i64 a0), []) := (stop_eq (some 10) _ _ _).trans (by kernel_rfl)
theorem SeekMap.e2_eq (C : Nat → CallF) (k j0 : Nat) (a0 : List ByteArray) (a1 : Int) (a2 : Int) (a3 : List Int) (a4 : List ByteArray) : SeekMap.e2 C k j0 a0 a1 a2 a3 a4 =
  SeekMap.l0 C k j0 a0 a1 (IntKind.i64.wrap (a2 + 1)) a3 a4 := (stop_eq (some 9) _ _ _).trans (by kernel_rfl)
def live47 : Live := fun q a b => match q, a, b with
  | _, _, _ => none
noncomputable def SeekMerge.f (C : Nat → CallF) (k : Nat) (x0 : List ByteArray) (x1 : List ByteArray) := ibody (EE.on sig47) (C k) k live47 sig47 Try.f47 [.pv [.sl false (.strs x0)] 0, .pv [.sl false (.strs x1)] 0]
theorem SeekMerge.f_eq (C : Nat → CallF) (k : Nat) (x0 : List ByteArray) (x1 : List ByteArray) : SeekMerge.f C k x0 x1 =
  DictAll.q (C k) x0 (fun l1 =>
    DictAll.q (C k) x1 (fun l2 =>
      if l1.length + l2.length ≤ bound ∧ 1 = 1 then
        cond (decide ((l1 ++ l2).length ≤ 17179869184))
          (cond (decide ((sortS (l1 ++ l2)).length ≤ 17179869184))
            (some (.sl true (.strs (compactS (sortS (l1 ++ l2)))), []))
            (none))
          (none)
      else none)) := by kernel_rfl
def live77 : Live := fun q a b => match q, a, b with
  | 2, some 2, some 6 => some [(5, false)]
  | 4, some 2, some 6 => some [(1, false), (5, false), (6, false)]
  | _, _, _ => none
noncomputable def SearchL.f (C : Nat → CallF) (k : Nat) (x0 : Int) (x1 : List ByteArray) (x2 : ByteArray) := ibody (EE.on sig77) (C k) k live77 sig77 Try.f77 [.int .i64 x0, .fn 78 [.pv [.pv [.sl false (.strs x1)] 0] 0, .pv [.str x2] 0]]
noncomputable def SearchL.l0 (C : Nat → CallF) (k j : Nat) (a0 : List ByteArray) (a1 : ByteArray) (a2 : Int) (a3 : Int) := cutL (EE.on sig77) (C k) k live77 (some 2) [1, 1, 0, 4] [] (bodyOf Try.f77) (kfin (EE.on sig77) sig77 Try.f77) j (mkSt 26 [(1, .fn 78 [.pv [.pv [.sl false (.strs a0)] 0] 0, .pv [.str a1] 0]), (5, .int .i64 a2), (6, .int .i64 a3)] [] [])
noncomputable def SearchL.e0 (C : Nat → CallF) (k : Nat) (a0 : Int) := cutE (EE.on sig77) (C k) k live77 (some 7) [1, 1, 1] [] (bodyOf Try.f77) (kfin (EE.on sig77) sig77 Try.f77) (mkSt 26 [(5, .int .i64 a0)] [] [])
theorem SearchL.f_eq (C : Nat → CallF) (k : Nat) (x0 : Int) (x1 : List ByteArray) (x2 : ByteArray) : SearchL.f C k x0 x1 x2 =
  SearchL.l0 C k k x1 x2 0 x0 := by kernel_rfl
theorem SearchL.l0_eq (C : Nat → CallF) (k j : Nat) (a0 : List ByteArray) (a1 : ByteArray) (a2 : Int) (a3 : Int) : SearchL.l0 C k (j + 1) a0 a1 a2 a3 =
  cond (decide (a2 < a3))
    (LowF.s (C k) (IntKind.i64.wrap ((IntKind.u64.wrap (IntKind.i64.wrap (a2 + a3))).fdiv (2 ^ (min (1 : Int).toNat IntKind.u64.bits)))) a0 a1 (fun b1 =>
      cond (!b1)
        (SearchL.l0 C k j a0 a1 (IntKind.i64.wrap ((IntKind.i64.wrap ((IntKind.u64.wrap (IntKind.i64.wrap (a2 + a3))).fdiv (2 ^ (min (1 : Int).toNat IntKind.u64.bits)))) + 1)) a3)
        (SearchL.l0 C k j a0 a1 a2 (IntKind.i64.wrap ((IntKind.u64.wrap (IntKind.i64.wrap (a2 + a3))).fdiv (2 ^ (min (1 : Int).toNat IntKind.u64.bits)))))))
    (SearchL.e0 C k a2) := (stop_eq (some 2) _ _ _).trans (by kernel_rfl)
theorem SearchL.e0_eq (C : Nat → CallF) (k : Nat) (a0 : Int) : SearchL.e0 C k a0 =
  some (.int .i64 a0, []) := (stop_eq (some 7) _ _ _).trans (by kernel_rfl)
noncomputable def SearchU.f (C : Nat → CallF) (k : Nat) (x0 : Int) (x1 : List ByteArray) (x2 : ByteArray) := ibody (EE.on sig77) (C k) k live77 sig77 Try.f77 [.int .i64 x0, .fn 79 [.pv [.pv [.sl false (.strs x1)] 0] 0, .pv [.str x2] 0]]
noncomputable def SearchU.l0 (C : Nat → CallF) (k j : Nat) (a0 : List ByteArray) (a1 : ByteArray) (a2 : Int) (a3 : Int) := cutL (EE.on sig77) (C k) k live77 (some 2) [1, 1, 0, 4] [] (bodyOf Try.f77) (kfin (EE.on sig77) sig77 Try.f77) j (mkSt 26 [(1, .fn 79 [.pv [.pv [.sl false (.strs a0)] 0] 0, .pv [.str a1] 0]), (5, .int .i64 a2), (6, .int .i64 a3)] [] [])
noncomputable def SearchU.e0 (C : Nat → CallF) (k : Nat) (a0 : Int) := cutE (EE.on sig77) (C k) k live77 (some 7) [1, 1, 1] [] (bodyOf Try.f77) (kfin (EE.on sig77) sig77 Try.f77) (mkSt 26 [(5, .int .i64 a0)] [] [])
theorem SearchU.f_eq (C : Nat → CallF) (k : Nat) (x0 : Int) (x1 : List ByteArray) (x2 : ByteArray) : SearchU.f C k x0 x1 x2 =
  SearchU.l0 C k k x1 x2 0 x0 := by kernel_rfl
theorem SearchU.l0_eq (C : Nat → CallF) (k j : Nat) (a0 : List ByteArray) (a1 : ByteArray) (a2 : Int) (a3 : Int) : SearchU.l0 C k (j + 1) a0 a1 a2 a3 =
  cond (decide (a2 < a3))
    (UppF.s (C k) (IntKind.i64.wrap ((IntKind.u64.wrap (IntKind.i64.wrap (a2 + a3))).fdiv (2 ^ (min (1 : Int).toNat IntKind.u64.bits)))) a0 a1 (fun b1 =>
      cond (!b1)
        (SearchU.l0 C k j a0 a1 (IntKind.i64.wrap ((IntKind.i64.wrap ((IntKind.u64.wrap (IntKind.i64.wrap (a2 + a3))).fdiv (2 ^ (min (1 : Int).toNat IntKind.u64.bits)))) + 1)) a3)
        (SearchU.l0 C k j a0 a1 a2 (IntKind.i64.wrap ((IntKind.u64.wrap (IntKind.i64.wrap (a2 + a3))).fdiv (2 ^ (min (1 : Int).toNat IntKind.u64.bits)))))))
    (SearchU.e0 C k a2) := (stop_eq (some 2) _ _ _).trans (by kernel_rfl)
theorem SearchU.e0_eq (C : Nat → CallF) (k : Nat) (a0 : Int) : SearchU.e0 C k a0 =
  some (.int .i64 a0, []) := (stop_eq (some 7) _ _ _).trans (by kernel_rfl)
noncomputable def SearchP.f (C : Nat → CallF) (k : Nat) (x0 : Int) (x1 : List ByteArray) (x2 : Int) (x3 : ByteArray) := ibody (EE.on sig77) (C k) k live77 sig77 Try.f77 [.int .i64 x0, .fn 80 [.pv [.pv [.sl false (.strs x1)] 0] 0, .pv [.int .i64 x2] 0, .pv [.str x3] 0]]
noncomputable def SearchP.l0 (C : Nat → CallF) (k j : Nat) (a0 : List ByteArray) (a1 : Int) (a2 : ByteArray) (a3 : Int) (a4 : Int) := cutL (EE.on sig77) (C k) k live77 (some 2) [1, 1, 0, 4] [] (bodyOf Try.f77) (kfin (EE.on sig77) sig77 Try.f77) j (mkSt 26 [(1, .fn 80 [.pv [.pv [.sl false (.strs a0)] 0] 0, .pv [.int .i64 a1] 0, .pv [.str a2] 0]), (5, .int .i64 a3), (6, .int .i64 a4)] [] [])
noncomputable def SearchP.e0 (C : Nat → CallF) (k : Nat) (a0 : Int) := cutE (EE.on sig77) (C k) k live77 (some 7) [1, 1, 1] [] (bodyOf Try.f77) (kfin (EE.on sig77) sig77 Try.f77) (mkSt 26 [(5, .int .i64 a0)] [] [])
theorem SearchP.f_eq (C : Nat → CallF) (k : Nat) (x0 : Int) (x1 : List ByteArray) (x2 : Int) (x3 : ByteArray) : SearchP.f C k x0 x1 x2 x3 =
  SearchP.l0 C k k x1 x2 x3 0 x0 := by kernel_rfl
theorem SearchP.l0_eq (C : Nat → CallF) (k j : Nat) (a0 : List ByteArray) (a1 : Int) (a2 : ByteArray) (a3 : Int) (a4 : Int) : SearchP.l0 C k (j + 1) a0 a1 a2 a3 a4 =
  cond (decide (a3 < a4))
    (PreF.s (C k) (IntKind.i64.wrap ((IntKind.u64.wrap (IntKind.i64.wrap (a3 + a4))).fdiv (2 ^ (min (1 : Int).toNat IntKind.u64.bits)))) a0 a1 a2 (fun b1 =>
      cond (!b1)
        (SearchP.l0 C k j a0 a1 a2 (IntKind.i64.wrap ((IntKind.i64.wrap ((IntKind.u64.wrap (IntKind.i64.wrap (a3 + a4))).fdiv (2 ^ (min (1 : Int).toNat IntKind.u64.bits)))) + 1)) a4)
        (SearchP.l0 C k j a0 a1 a2 a3 (IntKind.i64.wrap ((IntKind.u64.wrap (IntKind.i64.wrap (a3 + a4))).fdiv (2 ^ (min (1 : Int).toNat IntKind.u64.bits)))))))
    (SearchP.e0 C k a3) := (stop_eq (some 2) _ _ _).trans (by kernel_rfl)
theorem SearchP.e0_eq (C : Nat → CallF) (k : Nat) (a0 : Int) : SearchP.e0 C k a0 =
  some (.int .i64 a0, []) := (stop_eq (some 7) _ _ _).trans (by kernel_rfl)
def live78 : Live := fun q a b => match q, a, b with
  | _, _, _ => none
noncomputable def LowF.f (C : Nat → CallF) (k : Nat) (x0 : Int) (x1 : List ByteArray) (x2 : ByteArray) := ibody (EE.on sig78) (C k) k live78 sig78 Try.f78 [.int .i64 x0, .pv [.pv [.sl false (.strs x1)] 0] 0, .pv [.str x2] 0]
theorem LowF.f_eq (C : Nat → CallF) (k : Nat) (x0 : Int) (x1 : List ByteArray) (x2 : ByteArray) : LowF.f C k x0 x1 x2 =
  DictAt.s (C k) x1 x0 (fun s1 =>
    some (.bool (!(Op.bytesLess s1.toList x2.toList)), [])) := by kernel_rfl
def live79 : Live := fun q a b => match q, a, b with
  | _, _, _ => none
noncomputable def UppF.f (C : Nat → CallF) (k : Nat) (x0 : Int) (x1 : List ByteArray) (x2 : ByteArray) := ibody (EE.on sig79) (C k) k live79 sig79 Try.f79 [.int .i64 x0, .pv [.pv [.sl false (.strs x1)] 0] 0, .pv [.str x2] 0]
theorem UppF.f_eq (C : Nat → CallF) (k : Nat) (x0 : Int) (x1 : List ByteArray) (x2 : ByteArray) : UppF.f C k x0 x1 x2 =
  DictAt.s (C k) x1 x0 (fun s1 =>
    some (.bool (!(Op.bytesLess s1.toList x2.toList || s1.toList == x2.toList)), [])) := by kernel_rfl
def live80 : Live := fun q a b => match q, a, b with
  | _, _, _ => none
noncomputable def PreF.f (C : Nat → CallF) (k : Nat) (x0 : Int) (x1 : List ByteArray) (x2 : Int) (x3 : ByteArray) := ibody (EE.on sig80) (C k) k live80 sig80 Try.f80 [.int .i64 x0, .pv [.pv [.sl false (.strs x1)] 0] 0, .pv [.int .i64 x2] 0, .pv [.str x3] 0]
theorem PreF.f_eq (C : Nat → CallF) (k : Nat) (x0 : Int) (x1 : List ByteArray) (x2 : Int) (x3 : ByteArray) : PreF.f C k x0 x1 x2 x3 =
  DictAt.s (C k) x1 (IntKind.i64.wrap (x2 + x0)) (fun s1 =>
    HasPre.s (C k) s1 x3 (fun b2 =>
      some (.bool (!b2), []))) := by kernel_rfl
def live81 : Live := fun q a b => match q, a, b with
  | _, _, _ => none
noncomputable def HasPreL.f (C : Nat → CallF) (k : Nat) (x0 : ByteArray) (x1 : ByteArray) := ibody (EE.on sig81) (C k) k live81 sig81 Try.f81 [.str x0, .str x1]
theorem HasPreL.f_eq (C : Nat → CallF) (k : Nat) (x0 : ByteArray) (x1 : ByteArray) : HasPreL.f C k x0 x1 =
  cond (decide ((x0.size : Int) ≥ (x1.size : Int)))
    (if (0 : Int) ≤ 0 ∧ (0 : Int) ≤ (x1.size : Int) ∧ (x1.size : Int) ≤ (x0.size : Int) then
      some (.bool ((x0.extract (0 : Int).toNat (x1.size : Int).toNat).toList == x1.toList), [])
    else none)
    (some (.bool false, [])) := by kernel_rfl
/-- the table's equations for these functions -/
structure EqFnK (C : Nat → CallF) : Prop where
  Dict14 : ∀ (k : Nat) (x0 : List ByteArray), C (k + 1) 38 [.sl false (.strs x0)] = Dict14.f C k x0
  SeekCode : ∀ (k : Nat) (x0 : List ByteArray) (x1 : ByteArray), C (k + 1) 41 [.pv [.sl false (.strs x0)] 0, .str x1] = SeekCode.f C k x0 x1
  SeekLower : ∀ (k : Nat) (x0 : List ByteArray) (x1 : ByteArray), C (k + 1) 42 [.pv [.sl false (.strs x0)] 0, .str x1] = SeekLower.f C k x0 x1
  SeekUpper : ∀ (k : Nat) (x0 : List ByteArray) (x1 : ByteArray), C (k + 1) 43 [.pv [.sl false (.strs x0)] 0, .str x1] = SeekUpper.f C k x0 x1
  SeekPrefix : ∀ (k : Nat) (x0 : List ByteArray) (x1 : ByteArray), C (k + 1) 44 [.pv [.sl false (.strs x0)] 0, .str x1] = SeekPrefix.f C k x0 x1
  HasPre : ∀ (k : Nat) (x0 : ByteArray) (x1 : ByteArray), C (k + 1) 45 [.str x0, .str x1] = HasPre.f C k x0 x1
  SeekMap : ∀ (k : Nat) (x0 : List ByteArray) (x1 : List ByteArray), C (k + 1) 46 [.pv [.sl false (.strs x0)] 0, .pv [.sl false (.strs x1)] 0] = SeekMap.f C k x0 x1
  SeekMerge : ∀ (k : Nat) (x0 : List ByteArray) (x1 : List ByteArray), C (k + 1) 47 [.pv [.sl false (.strs x0)] 0, .pv [.sl false (.strs x1)] 0] = SeekMerge.f C k x0 x1
  SearchL : ∀ (k : Nat) (x0 : Int) (x1 : List ByteArray) (x2 : ByteArray), C (k + 1) 77 [.int .i64 x0, .fn 78 [.pv [.pv [.sl false (.strs x1)] 0] 0, .pv [.str x2] 0]] = SearchL.f C k x0 x1 x2
  SearchU : ∀ (k : Nat) (x0 : Int) (x1 : List ByteArray) (x2 : ByteArray), C (k + 1) 77 [.int .i64 x0, .fn 79 [.pv [.pv [.sl false (.strs x1)] 0] 0, .pv [.str x2] 0]] = SearchU.f C k x0 x1 x2
  SearchP : ∀ (k : Nat) (x0 : Int) (x1 : List ByteArray) (x2 : Int) (x3 : ByteArray), C (k + 1) 77 [.int .i64 x0, .fn 80 [.pv [.pv [.sl false (.strs x1)] 0] 0, .pv [.int .i64 x2] 0, .pv [.str x3] 0]] = SearchP.f C k x0 x1 x2 x3
  LowF : ∀ (k : Nat) (x0 : Int) (x1 : List ByteArray) (x2 : ByteArray), C (k + 1) 78 [.int .i64 x0, .pv [.pv [.sl false (.strs x1)] 0] 0, .pv [.str x2] 0] = LowF.f C k x0 x1 x2
  UppF : ∀ (k : Nat) (x0 : Int) (x1 : List ByteArray) (x2 : ByteArray), C (k + 1) 79 [.int .i64 x0, .pv [.pv [.sl false (.strs x1)] 0] 0, .pv [.str x2] 0] = UppF.f C k x0 x1 x2
  PreF : ∀ (k : Nat) (x0 : Int) (x1 : List ByteArray) (x2 : Int) (x3 : ByteArray), C (k + 1) 80 [.int .i64 x0, .pv [.pv [.sl false (.strs x1)] 0] 0, .pv [.int .i64 x2] 0, .pv [.str x3] 0] = PreF.f C k x0 x1 x2 x3
  HasPreL : ∀ (k : Nat) (x0 : ByteArray) (x1 : ByteArray), C (k + 1) 81 [.str x0, .str x1] = HasPreL.f C k x0 x1
end Go.Proofs.Ytfkkigbbejhfbaa
