/- Step equations of some functions. -/
import Derived.Test.YtfkkigbbejhfbaaTab
namespace Go.Proofs.Ytfkkigbbejhfbaa
open Go Idl
set_option maxRecDepth 100000
set_option linter.unusedVariables false
def live97 : Live := fun q a b => match q, a, b with
  | _, _, _ => none
noncomputable def CurPutText.f (C : Nat → CallF) (k : Nat) (x0 : ByteArray) := ibody (EE.on sig97) (C k) k live97 sig97 Try.f97 [.str x0]
theorem CurPutText.f_eq (C : Nat → CallF) (k : Nat) (x0 : ByteArray) : CurPutText.f C k x0 =
  CurPut.q (C k) (x0.size : Int) (fun l1 =>
    if l1.length + x0.size ≤ bound ∧ true = true then
      some (.sl true (.ints .u8 (l1 ++ strBytes x0)), [])
    else none) := by kernel_rfl
def live98 : Live := fun q a b => match q, a, b with
  | 2, some 2, some 3 => some [(5, false)]
  | 4, some 2, some 3 => some [(0, false), (1, false), (5, false)]
  | _, _, _ => none
noncomputable def Shared.f (C : Nat → CallF) (k : Nat) (x0 : ByteArray) (x1 : ByteArray) := ibody (EE.on sig98) (C k) k live98 sig98 Try.f98 [.str x0, .str x1]
noncomputable def Shared.l0 (C : Nat → CallF) (k j : Nat) (a0 : ByteArray) (a1 : ByteArray) (a2 : Int) := cutL (EE.on sig98) (C k) k live98 (some 2) [1, 1, 0, 4] [] (bodyOf Try.f98) (kfin (EE.on sig98) sig98 Try.f98) j (mkSt 28 [(0, .str a0), (1, .str a1), (5, .int .i64 a2)] [] [])
noncomputable def Shared.e0 (C : Nat → CallF) (k : Nat) (a0 : Int) := cutE (EE.on sig98) (C k) k live98 (some 4) [1, 1, 1] [] (bodyOf Try.f98) (kfin (EE.on sig98) sig98 Try.f98) (mkSt 28 [(5, .int .i64 a0)] [] [])
theorem Shared.f_eq (C : Nat → CallF) (k : Nat) (x0 : ByteArray) (x1 : ByteArray) : Shared.f C k x0 x1 =
  Shared.l0 C k k x0 x1 0 := by kernel_rfl
theorem Shared.l0_eq (C : Nat → CallF) (k j : Nat) (a0 : ByteArray) (a1 : ByteArray) (a2 : Int) : Shared.l0 C k (j + 1) a0 a1 a2 =
  cond (decide (a2 < (a0.size : Int)))
    (cond (decide (a2 < (a1.size : Int)))
      (if (0 : Int) ≤ a2 then
        (match a0.data.toList[a2.toNat]? with
          | some b1 => if (0 : Int) ≤ a2 then
            (match a1.data.toList[a2.toNat]? with
              | some b2 => cond ((b1.toNat : Int) == (b2.toNat : Int))
                (Shared.l0 C k j a0 a1 (IntKind.i64.wrap (a2 + 1)))
                (Shared.e0 C k a2)
              | none => none)
          else none
          | none => none)
      else none)
      (Shared.e0 C k a2))
    (Shared.e0 C k a2) := (stop_eq (some 2) _ _ _).trans (by kernel_rfl)
theorem Shared.e0_eq (C : Nat → CallF) (k : Nat) (a0 : Int) : Shared.e0 C k a0 =
  some (.int .i64 a0, []) := (stop_eq (some 4) _ _ _).trans (by kernel_rfl)
def live101 : Live := fun q a b => match q, a, b with
  | 9, some 3, some 4 => some [(4, false)]
  | _, _, _ => none
noncomputable def CurText.f (C : Nat → CallF) (k : Nat) (x0 : List Int) (x1 : Int) (x2 : Int) := ibody (EE.on sig101) (C k) k live101 sig101 Try.f101 [.pt [.sl false (.ints .u8 x0), .int .i64 x1, .int .i64 x2]]
noncomputable def CurText.e0 (C : Nat → CallF) (k : Nat) (a0 : List Int) (a1 : Int) (a2 : Int) (a3 : List Int) := cutE (EE.on sig101) (C k) k live101 (some 5) [1, 1, 1, 1] [] (bodyOf Try.f101) (kfin (EE.on sig101) sig101 Try.f101) (mkSt 24 [(4, .rs 1)] [.pt [.sl false (.ints .u8 a0), .int .i64 a1, .int .i64 a2], .sl true (.ints .u8 a3)] [0])
theorem CurText.f_eq (C : Nat → CallF) (k : Nat) (x0 : List Int) (x1 : Int) (x2 : Int) : CurText.f C k x0 x1 x2 =
  CurMost.q (C k) x0 x1 x2 4096 (fun n1 l2 n3 n4 =>
    CurBytes.q (C k) l2 n3 n4 n1 (fun l5 l6 n7 n8 =>
      cond (n8 != 0)
        (CurText.e0 C k l6 x1 n8 l5)
        (CurText.e0 C k l6 n7 n8 l5))) := by kernel_rfl
theorem CurText.e0_eq (C : Nat → CallF) (k : Nat) (a0 : List Int) (a1 : Int) (a2 : Int) (a3 : List Int) : CurText.e0 C k a0 a1 a2 a3 =
  some (.str (bytesStr a3), [.pt [.sl false (.ints .u8 a0), .int .i64 a1, .int .i64 a2]]) := (stop_eq (some 5) _ _ _).trans (by kernel_rfl)
def live69 : Live := fun q a b => match q, a, b with
  | 4, some 4, some 8 => some [(0, false), (18, false), (19, false), (20, false)]
  | 9, some 3, some 8 => some []
  | _, _, _ => none
noncomputable def FrontRight.f (C : Nat → CallF) (k : Nat) (x0 : List ByteArray) (x1 : Int) := ibody (EE.on sig69) (C k) k live69 sig69 Try.f69 [.sl false (.strs x0), .int .i64 x1]
noncomputable def FrontRight.l0 (C : Nat → CallF) (k j : Nat) (a0 : List ByteArray) (a1 : List ByteArray) (a2 : Int) (a3 : Int) := cutL (EE.on sig69) (C k) k live69 (some 4) [1, 1, 0, 1, 4] [] (bodyOf Try.f69) (kfin (EE.on sig69) sig69 Try.f69) j (mkSt 42 [(0, .sl false (.strs a0)), (18, .sl false (.strs a1)), (19, .int .i64 a2), (20, .int .i64 a3)] [] [])
noncomputable def FrontRight.e0 (C : Nat → CallF) (k : Nat) := cutE (EE.on sig69) (C k) k live69 (some 9) [1, 1, 1] [] (bodyOf Try.f69) (kfin (EE.on sig69) sig69 Try.f69) (mkSt 42 [] [] [])
theorem FrontRight.f_eq (C : Nat → CallF) (k : Nat) (x0 : List ByteArray) (x1 : Int) : FrontRight.f C k x0 x1 =
  cond (decide (x1 < 1))
    (some (.bool false, []))
    (cond (decide (x1 > 64))
      (some (.bool false, []))
      (cond (decide ((x0.length : Int) > 4096))
        (some (.bool false, []))
        (FrontRight.l0 C k k x0 x0 (x0.length : Int) 0))) := by kernel_rfl
theorem FrontRight.l0_eq (C : Nat → CallF) (k j : Nat) (a0 : List ByteArray) (a1 : List ByteArray) (a2 : Int) (a3 : Int) : FrontRight.l0 C k (j + 1) a0 a1 a2 a3 =
  cond (decide (a3 < a2))
    (if (0 : Int) ≤ a3 then
      (match a1[a3.toNat]? with
        | some x1 => cond (decide ((x1.size : Int) > 4096))
          (some (.bool false, []))
          (cond (decide (a3 > 0))
            (if (0 : Int) ≤ (IntKind.i64.wrap (a3 - 1)) then
              (match a0[(IntKind.i64.wrap (a3 - 1)).toNat]? with
                | some x2 => cond (!(Op.bytesLess x2.toList x1.toList))
                  (some (.bool false, []))
                  (FrontRight.l0 C k j a0 a1 a2 (IntKind.i64.wrap (a3 + 1)))
                | none => none)
            else none)
            (FrontRight.l0 C k j a0 a1 a2 (IntKind.i64.wrap (a3 + 1))))
        | none => none)
    else none)
    (FrontRight.e0 C k) := (stop_eq (some 4) _ _ _).trans (by kernel_rfl)
theorem FrontRight.e0_eq (C : Nat → CallF) (k : Nat) : FrontRight.e0 C k =
  some (.bool true, []) := (stop_eq (some 9) _ _ _).trans (by kernel_rfl)
def live71 : Live := fun q a b => match q, a, b with
  | 4, some 3, some 7 => some [(0, false), (3, false), (12, false), (13, false), (14, false)]
  | 9, some 2, some 7 => some [(3, false)]
  | _, _, _ => none
noncomputable def Entries.f (C : Nat → CallF) (k : Nat) (x0 : List ByteArray) := ibody (EE.on sig71) (C k) k live71 sig71 Try.f71 [.sl false (.strs x0)]
noncomputable def Entries.l0 (C : Nat → CallF) (k j : Nat) (a0 : List ByteArray) (a1 : List ByteArray) (a2 : Int) (a3 : Int) (a4 : List Int) := cutL (EE.on sig71) (C k) k live71 (some 3) [1, 1, 0, 1, 4] [] (bodyOf Try.f71) (kfin (EE.on sig71) sig71 Try.f71) j (mkSt 36 [(0, .sl false (.strs a0)), (3, .rs 0), (12, .sl false (.strs a1)), (13, .int .i64 a2), (14, .int .i64 a3)] [.sl true (.ints .u8 a4)] [])
noncomputable def Entries.e0 (C : Nat → CallF) (k : Nat) (a0 : List Int) := cutE (EE.on sig71) (C k) k live71 (some 8) [1, 1, 1] [] (bodyOf Try.f71) (kfin (EE.on sig71) sig71 Try.f71) (mkSt 36 [(3, .rs 0)] [.sl true (.ints .u8 a0)] [])
theorem Entries.f_eq (C : Nat → CallF) (k : Nat) (x0 : List ByteArray) : Entries.f C k x0 =
  if (0 : Int) ≤ 0 then
    (match x0[(0 : Int).toNat]? with
      | some x1 => CurPutText.q (C k) x1 (fun l2 =>
        if (0 : Int) ≤ 1 ∧ (1 : Int) ≤ (x0.length : Int) ∧ (x0.length : Int) ≤ (x0.length : Int) ∧ (x0.length : Int) = (x0.length : Int) ∧ 1 = 1 then
          Entries.l0 C k k x0 ((x0.take (x0.length : Int).toNat).drop (1 : Int).toNat) (((x0.take (x0.length : Int).toNat).drop (1 : Int).toNat).length : Int) 0 l2
        else none)
      | none => none)
  else none := by kernel_rfl
theorem Entries.l0_eq (C : Nat → CallF) (k j : Nat) (a0 : List ByteArray) (a1 : List ByteArray) (a2 : Int) (a3 : Int) (a4 : List Int) : Entries.l0 C k (j + 1) a0 a1 a2 a3 a4 =
  cond (decide (a3 < a2))
    (if (0 : Int) ≤ a3 then
      (match a1[a3.toNat]? with
        | some x3 => if (0 : Int) ≤ a3 then
          (match a0[a3.toNat]? with
            | some x4 => Shared.s (C k) x4 x3 (fun n5 =>
              CurPut.q (C k) n5 (fun l6 =>
                if (0 : Int) ≤ n5 ∧ n5 ≤ (x3.size : Int) ∧ (x3.size : Int) ≤ (x3.size : Int) then
                  CurPutText.q (C k) (x3.extract n5.toNat (x3.size : Int).toNat) (fun l7 =>
                    Concat.q (C k) [.sl false (.ints .u8 a4), .sl false (.ints .u8 l6), .sl false (.ints .u8 l7)] (fun l8 =>
                      Entries.l0 C k j a0 a1 a2 (IntKind.i64.wrap (a3 + 1)) l8))
                else none))
            | none => none)
        else none
        | none => none)
    else none)
    (Entries.e0 C k a4) := (stop_eq (some 3) _ _ _).trans (by kernel_rfl)
theorem Entries.e0_eq (C : Nat → CallF) (k : Nat) (a0 : List Int) : Entries.e0 C k a0 =
  some (.sl true (.ints .u8 a0), []) := (stop_eq (some 8) _ _ _).trans (by kernel_rfl)
def live75 : Live := fun q a b => match q, a, b with
  | 2, some 5, some 12 => some [(0, false), (2, false), (7, false), (8, false), (18, false), (19, false)]
  | 4, some 4, some 13 => some [(0, false), (2, false), (7, false), (8, false), (18, false), (19, false)]
  | 9, some 10, some 11 => some [(0, false), (2, false), (7, false), (8, false), (11, false), (18, false), (19, false)]
  | 9, some 14, some 15 => some [(8, false)]
  | 9, some 3, some 13 => some [(0, false), (2, false), (7, false), (8, false)]
  | _, _, _ => none
noncomputable def Taken.f (C : Nat → CallF) (k : Nat) (x0 : List Int) (x1 : Int) (x2 : Int) (x3 : Int) (x4 : Int) := ibody (EE.on sig75) (C k) k live75 sig75 Try.f75 [.pt [.sl false (.ints .u8 x0), .int .i64 x1, .int .i64 x2], .int .i64 x3, .int .i64 x4]
noncomputable def Taken.l0 (C : Nat → CallF) (k j : Nat) (a0 : Int) (a1 : Int) (a2 : Int) (a3 : Int) (a4 : List Int) (a5 : Int) (a6 : Int) (a7 : List ByteArray) := cutL (EE.on sig75) (C k) k live75 (some 4) [1, 1, 1, 0, 1, 4] [] (bodyOf Try.f75) (kfin (EE.on sig75) sig75 Try.f75) j (mkSt 61 [(0, .pr 0 0), (2, .int .i64 a0), (7, .int .i64 a1), (8, .rs 1), (18, .int .i64 a2), (19, .int .i64 a3)] [.pt [.sl false (.ints .u8 a4), .int .i64 a5, .int .i64 a6], .sl true (.strs a7)] [0])
noncomputable def Taken.e0 (C : Nat → CallF) (k j0 : Nat) (a0 : Int) (a1 : Int) (a2 : ByteArray) (a3 : Int) (a4 : Int) (a5 : List Int) (a6 : Int) (a7 : Int) (a8 : List ByteArray) := cutE (EE.on sig75) (C k) k live75 (some 12) [1, 1, 1, 0, 1, 4, 5, 1, 1, 0, 4, 1, 1, 1, 1, 1] [j0] (bodyOf Try.f75) (kfin (EE.on sig75) sig75 Try.f75) (mkSt 61 [(0, .pr 0 0), (2, .int .i64 a0), (7, .int .i64 a1), (8, .rs 1), (11, .str a2), (18, .int .i64 a3), (19, .int .i64 a4)] [.pt [.sl false (.ints .u8 a5), .int .i64 a6, .int .i64 a7], .sl true (.strs a8)] [0])
noncomputable def Taken.e1 (C : Nat → CallF) (k : Nat) (a0 : Int) (a1 : Int) (a2 : List Int) (a3 : Int) (a4 : Int) (a5 : List ByteArray) := cutE (EE.on sig75) (C k) k live75 (some 14) [1, 1, 1, 1] [] (bodyOf Try.f75) (kfin (EE.on sig75) sig75 Try.f75) (mkSt 61 [(0, .pr 0 0), (2, .int .i64 a0), (7, .int .i64 a1), (8, .rs 1)] [.pt [.sl false (.ints .u8 a2), .int .i64 a3, .int .i64 a4], .sl true (.strs a5)] [0])
noncomputable def Taken.e2 (C : Nat → CallF) (k j0 : Nat) (a0 : Int) (a1 : Int) (a2 : Int) (a3 : Int) (a4 : List Int) (a5 : Int) (a6 : Int) (a7 : List ByteArray) := cutE (EE.on sig75) (C k) k live75 (some 13) [1, 1, 1, 0, 1, 4, 5, 1, 1, 1] [j0] (bodyOf Try.f75) (kfin (EE.on sig75) sig75 Try.f75) (mkSt 61 [(0, .pr 0 0), (2, .int .i64 a0), (7, .int .i64 a1), (8, .rs 1), (18, .int .i64 a2), (19, .int .i64 a3)] [.pt [.sl false (.ints .u8 a4), .int .i64 a5, .int .i64 a6], .sl true (.strs a7)] [0])
noncomputable def Taken.e3 (C : Nat → CallF) (k : Nat) (a0 : List Int) (a1 : Int) (a2 : Int) (a3 : List ByteArray) := cutE (EE.on sig75) (C k) k live75 (some 16) [1, 1, 1, 1, 1] [] (bodyOf Try.f75) (kfin (EE.on sig75) sig75 Try.f75) (mkSt 61 [(8, .rs 1)] [.pt [.sl false (.ints .u8 a0), .int .i64 a1, .int .i64 a2], .sl true (.strs a3)] [0])
theorem Taken.f_eq (C : Nat → CallF) (k : Nat) (x0 : List Int) (x1 : Int) (x2 : Int) (x3 : Int) (x4 : Int) : Taken.f C k x0 x1 x2 x3 x4 =
  CurLeft.q (C k) x0 x1 x2 (fun n1 l2 n3 n4 =>
    CurText.q (C k) l2 n3 n4 (fun s5 l6 n7 n8 =>
      Taken.l0 C k k x4 n1 (IntKind.i64.wrap (x3 - 1)) 0 l6 n7 n8 [s5])) := by kernel_rfl
theorem Taken.l0_eq (C : Nat → CallF) (k j : Nat) (a0 : Int) (a1 : Int) (a2 : Int) (a3 : Int) (a4 : List Int) (a5 : Int) (a6 : Int) (a7 : List ByteArray) : Taken.l0 C k (j + 1) a0 a1 a2 a3 a4 a5 a6 a7 =
  cond (decide (a3 < a2))
    (if (0 : Int) ≤ (IntKind.i64.wrap ((a7.length : Int) - 1)) then
      if (IntKind.i64.wrap ((a7.length : Int) - 1)) < (a7.length : Int) ∧ 1 = 1 then
        (match a7[(IntKind.i64.wrap ((a7.length : Int) - 1)).toNat]? with
          | some x9 => CurMost.q (C k) a4 a5 a6 (x9.size : Int) (fun n10 l11 n12 n13 =>
            if (0 : Int) ≤ 0 ∧ (0 : Int) ≤ n10 ∧ n10 ≤ (x9.size : Int) then
              CurText.q (C k) l11 n12 n13 (fun s14 l15 n16 n17 =>
                if (x9.extract (0 : Int).toNat n10.toNat).size + s14.size ≤ 9223372036854775807 then
                  CurGood.q (C k) l15 n16 n17 (fun b18 l19 n20 n21 =>
                    cond (!b18)
                      (some (.sl true (.strs ([] : List ByteArray)), [.pt [.sl false (.ints .u8 l19), .int .i64 n20, .int .i64 n21]]))
                      (Shared.s (C k) x9 ((x9.extract (0 : Int).toNat n10.toNat) ++ s14) (fun n22 =>
                        cond (n22 != n10)
                          (CurFail.q (C k) l19 n20 n21 3 (fun l23 n24 n25 =>
                            Taken.e0 C k j a0 a1 ((x9.extract (0 : Int).toNat n10.toNat) ++ s14) a2 a3 l23 n24 n25 a7))
                          (Taken.e0 C k j a0 a1 ((x9.extract (0 : Int).toNat n10.toNat) ++ s14) a2 a3 l19 n20 n21 a7))))
                else none)
            else none)
          | none => none)
      else none
    else none)
    (Taken.e1 C k a0 a1 a4 a5 a6 a7) := (stop_eq (some 4) _ _ _).trans (by kernel_rfl)
theorem Taken.e0_eq (C : Nat → CallF) (k j0 : Nat) (a0 : Int) (a1 : Int) (a2 : ByteArray) (a3 : Int) (a4 : Int) (a5 : List Int) (a6 : Int) (a7 : Int) (a8 : List ByteArray) : Taken.e0 C k j0 a0 a1 a2 a3 a4 a5 a6 a7 a8 =
  if a8.length + [a2].length ≤ bound ∧ 1 = 1 then
    Taken.e2 C k j0 a0 a1 a3 a4 a5 a6 a7 (a8 ++ [a2])
  else none := (stop_eq (some 12) _ _ _).trans (by kernel_rfl)
theorem Taken.e1_eq (C : Nat → CallF) (k : Nat) (a0 : Int) (a1 : Int) (a2 : List Int) (a3 : Int) (a4 : Int) (a5 : List ByteArray) : Taken.e1 C k a0 a1 a2 a3 a4 a5 =
  CurLeft.q (C k) a2 a3 a4 (fun n26 l27 n28 n29 =>
    cond ((IntKind.i64.wrap (a1 - n26)) != a0)
      (CurFail.q (C k) l27 n28 n29 3 (fun l30 n31 n32 =>
        Taken.e3 C k l30 n31 n32 a5))
      (Taken.e3 C k l27 n28 n29 a5)) := (stop_eq (some 14) _ _ _).trans (by kernel_rfl)
theorem Taken.e2_eq (C : Nat → CallF) (k j0 : Nat) (a0 : Int) (a1 : Int) (a2 : Int) (a3 : Int) (a4 : List Int) (a5 : Int) (a6 : Int) (a7 : List ByteArray) : Taken.e2 C k j0 a0 a1 a2 a3 a4 a5 a6 a7 =
  Taken.l0 C k j0 a0 a1 a2 (IntKind.i64.wrap (a3 + 1)) a4 a5 a6 a7 := (stop_eq (some 13) _ _ _).trans (by kernel_rfl)
theorem Taken.e3_eq (C : Nat → CallF) (k : Nat) (a0 : List Int) (a1 : Int) (a2 : Int) (a3 : List ByteArray) : Taken.e3 C k a0 a1 a2 a3 =
  some (.sl true (.strs a3), [.pt [.sl false (.ints .u8 a0), .int .i64 a1, .int .i64 a2]]) := (stop_eq (some 16) _ _ _).trans (by kernel_rfl)
def live30 : Live := fun q a b => match q, a, b with
  | 4, some 8, some 13 => some [(0, false), (3, false), (4, false), (6, false), (32, false), (33, false), (34, false)]
  | 9, some 14, some 15 => some [(0, false), (6, false)]
  | 9, some 7, some 13 => some [(0, false), (4, false), (6, false)]
  | _, _, _ => none
noncomputable def FrontOpen.f (C : Nat → CallF) (k : Nat) (x0 : List Int) (x1 : Int) (x2 : Int) := ibody (EE.on sig30) (C k) k live30 sig30 Try.f30 [.pt [.sl false (.ints .u8 x0), .int .i64 x1, .int .i64 x2]]
noncomputable def FrontOpen.l0 (C : Nat → CallF) (k j : Nat) (a0 : Int) (a1 : Int) (a2 : List Int) (a3 : Int) (a4 : Int) (a5 : List Int) (a6 : Int) (a7 : Int) (a8 : List ByteArray) := cutL (EE.on sig30) (C k) k live30 (some 8) [1, 1, 1, 1, 1, 0, 1, 4] [] (bodyOf Try.f30) (kfin (EE.on sig30) sig30 Try.f30) j (mkSt 71 [(0, .pr 0 0), (3, .int .i64 a0), (4, .int .i64 a1), (6, .rs 1), (32, .sl false (.ints .i64 a2)), (33, .int .i64 a3), (34, .int .i64 a4)] [.pt [.sl false (.ints .u8 a5), .int .i64 a6, .int .i64 a7], .sl true (.strs a8)] [0])
noncomputable def FrontOpen.e0 (C : Nat → CallF) (k : Nat) (a0 : Int) (a1 : List Int) (a2 : Int) (a3 : Int) (a4 : List ByteArray) := cutE (EE.on sig30) (C k) k live30 (some 14) [1, 1, 1, 1, 1, 1] [] (bodyOf Try.f30) (kfin (EE.on sig30) sig30 Try.f30) (mkSt 71 [(0, .pr 0 0), (4, .int .i64 a0), (6, .rs 1)] [.pt [.sl false (.ints .u8 a1), .int .i64 a2, .int .i64 a3], .sl true (.strs a4)] [0])
noncomputable def FrontOpen.e1 (C : Nat → CallF) (k : Nat) (a0 : List Int) (a1 : Int) (a2 : Int) (a3 : List ByteArray) := cutE (EE.on sig30) (C k) k live30 (some 16) [1, 1, 1, 1, 1, 1, 1] [] (bodyOf Try.f30) (kfin (EE.on sig30) sig30 Try.f30) (mkSt 71 [(0, .pr 0 0), (6, .rs 1)] [.pt [.sl false (.ints .u8 a0), .int .i64 a1, .int .i64 a2], .sl true (.strs a3)] [0])
theorem FrontOpen.f_eq (C : Nat → CallF) (k : Nat) (x0 : List Int) (x1 : Int) (x2 : Int) : FrontOpen.f C k x0 x1 x2 =
  CurMost.q (C k) x0 x1 x2 4096 (fun n1 l2 n3 n4 =>
    CurMost.q (C k) l2 n3 n4 64 (fun n5 l6 n7 n8 =>
      PackRead.q (C k) l6 n7 n8 4096 (fun l9 l10 n11 n12 =>
        cond (n5 == 0)
          (CurFail.q (C k) l10 n11 n12 3 (fun l13 n14 n15 =>
            some (.pv [.sl false (.strs ([] : List ByteArray))] 0, [.pt [.sl false (.ints .u8 l13), .int .i64 n14, .int .i64 n15]])))
          (if n5 = 0 then none else
            cond ((l9.length : Int) != (IntKind.i64.wrap ((IntKind.i64.wrap ((IntKind.i64.wrap (n1 + n5)) - 1)).tdiv n5)))
              (CurFail.q (C k) l10 n11 n12 3 (fun l16 n17 n18 =>
                some (.pv [.sl false (.strs ([] : List ByteArray))] 0, [.pt [.sl false (.ints .u8 l16), .int .i64 n17, .int .i64 n18]])))
              (FrontOpen.l0 C k k n1 n5 l9 (l9.length : Int) 0 l10 n11 n12 ([] : List ByteArray)))))) := by kernel_rfl
theorem FrontOpen.l0_eq (C : Nat → CallF) (k j : Nat) (a0 : Int) (a1 : Int) (a2 : List Int) (a3 : Int) (a4 : Int) (a5 : List Int) (a6 : Int) (a7 : Int) (a8 : List ByteArray) : FrontOpen.l0 C k (j + 1) a0 a1 a2 a3 a4 a5 a6 a7 a8 =
  cond (decide (a4 < a3))
    (if (0 : Int) ≤ a4 then
      (match a2[a4.toNat]? with
        | some x19 => Taken.q (C k) a5 a6 a7 (if (IntKind.i64.wrap (a0 - (IntKind.i64.wrap (a4 * a1)))) < a1 then (IntKind.i64.wrap (a0 - (IntKind.i64.wrap (a4 * a1)))) else a1) x19 (fun l20 l21 n22 n23 =>
          if a8.length + l20.length ≤ bound ∧ 1 = 1 then
            CurGood.q (C k) l21 n22 n23 (fun b24 l25 n26 n27 =>
              cond (!b24)
                (some (.pv [.sl false (.strs ([] : List ByteArray))] 0, [.pt [.sl false (.ints .u8 l25), .int .i64 n26, .int .i64 n27]]))
                (FrontOpen.l0 C k j a0 a1 a2 a3 (IntKind.i64.wrap (a4 + 1)) l25 n26 n27 (a8 ++ l20)))
          else none)
        | none => none)
    else none)
    (FrontOpen.e0 C k a1 a5 a6 a7 a8) := (stop_eq (some 8) _ _ _).trans (by kernel_rfl)
theorem FrontOpen.e0_eq (C : Nat → CallF) (k : Nat) (a0 : Int) (a1 : List Int) (a2 : Int) (a3 : Int) (a4 : List ByteArray) : FrontOpen.e0 C k a0 a1 a2 a3 a4 =
  FrontRight.s (C k) a4 a0 (fun b28 =>
    cond (!b28)
      (CurFail.q (C k) a1 a2 a3 3 (fun l29 n30 n31 =>
        FrontOpen.e1 C k l29 n30 n31 a4))
      (FrontOpen.e1 C k a1 a2 a3 a4)) := (stop_eq (some 14) _ _ _).trans (by kernel_rfl)
theorem FrontOpen.e1_eq (C : Nat → CallF) (k : Nat) (a0 : List Int) (a1 : Int) (a2 : Int) (a3 : List ByteArray) : FrontOpen.e1 C k a0 a1 a2 a3 =
  CurGood.q (C k) a0 a1 a2 (fun b32 l33 n34 n35 =>
    cond (!b32)
      (some (.pv [.sl false (.strs ([] : List ByteArray))] 0, [.pt [.sl false (.ints .u8 l33), .int .i64 n34, .int .i64 n35]]))
      (some (.pv [.sl false (.strs a3)] 0, [.pt [.sl false (.ints .u8 l33), .int .i64 n34, .int .i64 n35]]))) := (stop_eq (some 16) _ _ _).trans (by kernel_rfl)
def live32 : Live := fun q a b => match q, a, b with
  | _, _, _ => none
noncomputable def DictLen.f (C : Nat → CallF) (k : Nat) (x0 : List ByteArray) := ibody (EE.on sig32) (C k) k live32 sig32 Try.f32 [.pv [.sl false (.strs x0)] 0]
theorem DictLen.f_eq (C : Nat → CallF) (k : Nat) (x0 : List ByteArray) : DictLen.f C k x0 =
  some (.int .i64 (x0.length : Int), []) := by kernel_rfl
def live33 : Live := fun q a b => match q, a, b with
  | _, _, _ => none
noncomputable def DictAll.f (C : Nat → CallF) (k : Nat) (x0 : List ByteArray) := ibody (EE.on sig33) (C k) k live33 sig33 Try.f33 [.pv [.sl false (.strs x0)] 0]
theorem DictAll.f_eq (C : Nat → CallF) (k : Nat) (x0 : List ByteArray) : DictAll.f C k x0 =
  CloneS.q (C k) x0 (fun l1 =>
    some (.sl true (.strs l1), [])) := by kernel_rfl
def live37 : Live := fun q a b => match q, a, b with
  | _, _, _ => none
noncomputable def DictAt.f (C : Nat → CallF) (k : Nat) (x0 : List ByteArray) (x1 : Int) := ibody (EE.on sig37) (C k) k live37 sig37 Try.f37 [.pv [.sl false (.strs x0)] 0, .int .i64 x1]
theorem DictAt.f_eq (C : Nat → CallF) (k : Nat) (x0 : List ByteArray) (x1 : Int) : DictAt.f C k x0 x1 =
  cond (decide (x1 < 0))
    (some (.str (⟨#[]⟩ : ByteArray), []))
    (cond (decide (x1 ≥ (x0.length : Int)))
      (some (.str (⟨#[]⟩ : ByteArray), []))
      (if (0 : Int) ≤ x1 then
        (match x0[x1.toNat]? with
          | some x1 => some (.str x1, [])
          | none => none)
      else none)) := by kernel_rfl
/-- the table's equations for these functions -/
structure EqFnS (C : Nat → CallF) : Prop where
  CurPutText : ∀ (k : Nat) (x0 : ByteArray), C (k + 1) 97 [.str x0] = CurPutText.f C k x0
  Shared : ∀ (k : Nat) (x0 : ByteArray) (x1 : ByteArray), C (k + 1) 98 [.str x0, .str x1] = Shared.f C k x0 x1
  CurText : ∀ (k : Nat) (x0 : List Int) (x1 : Int) (x2 : Int), C (k + 1) 101 [.pt [.sl false (.ints .u8 x0), .int .i64 x1, .int .i64 x2]] = CurText.f C k x0 x1 x2
  FrontRight : ∀ (k : Nat) (x0 : List ByteArray) (x1 : Int), C (k + 1) 69 [.sl false (.strs x0), .int .i64 x1] = FrontRight.f C k x0 x1
  Entries : ∀ (k : Nat) (x0 : List ByteArray), C (k + 1) 71 [.sl false (.strs x0)] = Entries.f C k x0
  Taken : ∀ (k : Nat) (x0 : List Int) (x1 : Int) (x2 : Int) (x3 : Int) (x4 : Int), C (k + 1) 75 [.pt [.sl false (.ints .u8 x0), .int .i64 x1, .int .i64 x2], .int .i64 x3, .int .i64 x4] = Taken.f C k x0 x1 x2 x3 x4
  FrontOpen : ∀ (k : Nat) (x0 : List Int) (x1 : Int) (x2 : Int), C (k + 1) 30 [.pt [.sl false (.ints .u8 x0), .int .i64 x1, .int .i64 x2]] = FrontOpen.f C k x0 x1 x2
  DictLen : ∀ (k : Nat) (x0 : List ByteArray), C (k + 1) 32 [.pv [.sl false (.strs x0)] 0] = DictLen.f C k x0
  DictAll : ∀ (k : Nat) (x0 : List ByteArray), C (k + 1) 33 [.pv [.sl false (.strs x0)] 0] = DictAll.f C k x0
  DictAt : ∀ (k : Nat) (x0 : List ByteArray) (x1 : Int), C (k + 1) 37 [.pv [.sl false (.strs x0)] 0, .int .i64 x1] = DictAt.f C k x0 x1
end Go.Proofs.Ytfkkigbbejhfbaa
