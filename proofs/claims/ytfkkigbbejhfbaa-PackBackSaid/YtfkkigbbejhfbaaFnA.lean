/- Step equations of some functions. -/
import Derived.Test.YtfkkigbbejhfbaaTab
namespace Go.Proofs.Ytfkkigbbejhfbaa
open Go Idl
set_option maxRecDepth 100000
set_option linter.unusedVariables false
def live3 : Live := fun q a b => match q, a, b with
  | 4, some 16, some 17 => some [(5, false), (7, false), (8, false), (10, false), (12, false)]
  | 4, some 5, some 6 => some [(0, false), (1, false), (5, false), (6, false)]
  | 9, some 15, some 17 => some [(5, false), (10, false)]
  | 9, some 4, some 6 => some [(1, false), (5, false)]
  | 9, some 9, some 10 => some [(5, false), (7, false)]
  | _, _, _ => none
noncomputable def PackBack.f (C : Nat → CallF) (k : Nat) (x0 : List Int) (x1 : Int) := ibody EE (C k) k live3 sig3 Try.f3 [.sl false (.ints .u32 x0), .int .u8 x1]
noncomputable def PackBack.l0 (C : Nat → CallF) (k j : Nat) (a0 : List Int) (a1 : Int) (a2 : Int) (a3 : List Int) := cutL EE (C k) k live3 (some 5) [1, 1, 1, 0, 1, 4] [] (bodyOf Try.f3) (kfin EE sig3 Try.f3) j (mkSt 98 [(0, .sl false (.ints .u32 a0)), (1, .int .u8 a1), (5, .rs 0), (6, .int .i64 a2)] [.sl true (.ints .i64 a3)] [])
noncomputable def PackBack.e0 (C : Nat → CallF) (k : Nat) (a0 : Int) (a1 : List Int) := cutE EE (C k) k live3 (some 8) [1, 1, 1, 1] [] (bodyOf Try.f3) (kfin EE sig3 Try.f3) (mkSt 98 [(1, .int .u8 a0), (5, .rs 0)] [.sl true (.ints .i64 a1)] [])
noncomputable def PackBack.e1 (C : Nat → CallF) (k : Nat) (a0 : Int) (a1 : List Int) := cutE EE (C k) k live3 (some 11) [1, 1, 1, 1, 1, 1] [] (bodyOf Try.f3) (kfin EE sig3 Try.f3) (mkSt 98 [(5, .rs 0), (7, .int .i64 a0)] [.sl true (.ints .i64 a1)] [])
noncomputable def PackBack.l1 (C : Nat → CallF) (k j : Nat) (a0 : Int) (a1 : Int) (a2 : List Int) (a3 : List Int) (a4 : List Int) := cutL EE (C k) k live3 (some 16) [1, 1, 1, 1, 1, 1, 1, 1, 1, 0, 1, 4] [] (bodyOf Try.f3) (kfin EE sig3 Try.f3) j (mkSt 98 [(5, .rs 0), (7, .int .i64 a0), (8, .rs 1), (10, .rs 2), (12, .int .i64 a1)] [.sl false (.ints .i64 a2), .sl true (.ints .u8 a3), .sl true (.ints .u8 a4)] [])
noncomputable def PackBack.e2 (C : Nat → CallF) (k : Nat) (a0 : List Int) (a1 : List Int) := cutE EE (C k) k live3 (some 20) [1, 1, 1, 1, 1, 1, 1, 1, 1, 1] [] (bodyOf Try.f3) (kfin EE sig3 Try.f3) (mkSt 98 [(5, .rs 0), (10, .rs 1)] [.sl false (.ints .i64 a0), .sl true (.ints .u8 a1)] [])
theorem PackBack.f_eq (C : Nat → CallF) (k : Nat) (x0 : List Int) (x1 : Int) : PackBack.f C k x0 x1 =
  Awake03.s (C k) fun b1 =>
    cond (!b1)
      (Awake03.s (C k) fun b2 =>
        some (.bool b2, []))
      (cond (decide ((x0.length : Int) > 300))
        (Awake03.s (C k) fun b3 =>
          some (.bool b3, []))
        (PackBack.l0 C k k x0 x1 0 ([] : List Int))) := by kernel_rfl
theorem PackBack.l0_eq (C : Nat → CallF) (k j : Nat) (a0 : List Int) (a1 : Int) (a2 : Int) (a3 : List Int) : PackBack.l0 C k (j + 1) a0 a1 a2 a3 =
  cond (decide (a2 < (a0.length : Int)))
    (if (0 : Int) ≤ a2 then
      (match a0[a2.toNat]? with
        | some x4 => if a3.length + [(IntKind.i64.wrap x4)].length ≤ bound ∧ 1 = 1 then
          PackBack.l0 C k j a0 a1 (IntKind.i64.wrap (a2 + 1)) (a3 ++ [(IntKind.i64.wrap x4)])
        else none
        | none => none)
    else none)
    (PackBack.e0 C k a1 a3) := by kernel_rfl
theorem PackBack.e0_eq (C : Nat → CallF) (k : Nat) (a0 : Int) (a1 : List Int) : PackBack.e0 C k a0 a1 =
  Width.s (C k) a1 fun n5 =>
    cond (decide ((IntKind.i64.wrap (n5 + (IntKind.i64.wrap (a0.tmod 3)))) > 32))
      (PackBack.e1 C k 32 a1)
      (PackBack.e1 C k (IntKind.i64.wrap (n5 + (IntKind.i64.wrap (a0.tmod 3)))) a1) := by kernel_rfl
theorem PackBack.e1_eq (C : Nat → CallF) (k : Nat) (a0 : Int) (a1 : List Int) : PackBack.e1 C k a0 a1 =
  PackPut.q (C k) a1 a0 fun l6 n7 =>
    PackWrite.q (C k) a1 fun l8 n9 =>
      cond (n7 != 0)
        (some (.bool false, []))
        (cond (n9 != 0)
          (some (.bool false, []))
          (cond ((l6.length : Int) != (IntKind.i64.wrap ((IntKind.i64.wrap ((IntKind.i64.wrap ((a1.length : Int) * a0)) + 7)).tdiv 8)))
            (some (.bool false, []))
            (PackBack.l1 C k k a0 0 a1 l6 l8))) := by kernel_rfl
theorem PackBack.l1_eq (C : Nat → CallF) (k j : Nat) (a0 : Int) (a1 : Int) (a2 : List Int) (a3 : List Int) (a4 : List Int) : PackBack.l1 C k (j + 1) a0 a1 a2 a3 a4 =
  cond (decide (a1 < (a2.length : Int)))
    (PackGet.s (C k) a3 a0 a1 fun n10 =>
      if (0 : Int) ≤ a1 then
        (match a2[a1.toNat]? with
          | some x11 => cond (n10 != x11)
            (some (.bool false, []))
            (PackBack.l1 C k j a0 (IntKind.i64.wrap (a1 + 1)) a2 a3 a4)
          | none => none)
      else none)
    (PackBack.e2 C k a2 a4) := by kernel_rfl
theorem PackBack.e2_eq (C : Nat → CallF) (k : Nat) (a0 : List Int) (a1 : List Int) : PackBack.e2 C k a0 a1 =
  CurNew.q (C k) a1 fun l12 n13 n14 =>
    PackRead.q (C k) l12 n13 n14 300 fun l15 l16 n17 n18 =>
      RefInts.s (C k) l15 a0 fun b19 =>
        cond b19
          (CurEnd.q (C k) l16 n17 n18 fun n20 l21 n22 n23 =>
            some (.bool (n20 == 0), []))
          (some (.bool false, [])) := by kernel_rfl
/-- the table's equations for these functions -/
structure EqFnA (C : Nat → CallF) : Prop where
  PackBack : ∀ (k : Nat) (x0 : List Int) (x1 : Int), C (k + 1) 3 [.sl false (.ints .u32 x0), .int .u8 x1] = PackBack.f C k x0 x1
end Go.Proofs.Ytfkkigbbejhfbaa
