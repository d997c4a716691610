/- Step equations of some functions. -/
import Derived.Test.YtfkkigbbejhfbaaTab
namespace Go.Proofs.Ytfkkigbbejhfbaa
open Go Idl
set_option maxRecDepth 100000
set_option linter.unusedVariables false
def live39 : Live := fun q a b => match q, a, b with
  | _, _, _ => none
noncomputable def Awake14.f (C : Nat → CallF) (k : Nat) := ibody (EE.on sig39) (C k) k live39 sig39 Try.f39 []
theorem Awake14.f_eq (C : Nat → CallF) (k : Nat) : Awake14.f C k =
  Dict14.q (C k) ([(⟨#[98]⟩ : ByteArray), (⟨#[97, 98]⟩ : ByteArray), (⟨#[97]⟩ : ByteArray)]) (fun l1 b2 =>
    cond (!b2)
      (some (.bool false, []))
      (none)) (fun l3 l4 b5 =>
    cond (!b5)
      (some (.bool false, []))
      (SeekPrefix.s (C k) l3 (⟨#[97]⟩ : ByteArray) (fun n6 n7 =>
        SeekCode.s (C k) l3 (⟨#[98]⟩ : ByteArray) (fun n8 b9 =>
          cond (n6 == 0)
            (cond (n7 == 2)
              (cond b9
                (cond (n8 == 2)
                  (SeekLower.s (C k) l3 (⟨#[97, 98]⟩ : ByteArray) (fun n10 =>
                    cond (n10 == 1)
                      (SeekUpper.s (C k) l3 (⟨#[97, 98]⟩ : ByteArray) (fun n11 =>
                        cond (n11 == 2)
                          (SeekMap.q (C k) l3 l3 (fun l12 =>
                            cond ((l12.length : Int) == 3)
                              (SeekMerge.q (C k) l3 l3 (fun l13 =>
                                some (.bool ((l13.length : Int) == 3), [])))
                              (some (.bool false, []))))
                          (some (.bool false, []))))
                      (some (.bool false, []))))
                  (some (.bool false, [])))
                (some (.bool false, [])))
              (some (.bool false, [])))
            (some (.bool false, [])))))) := by kernel_rfl
def live9 : Live := fun q a b => match q, a, b with
  | 2, some 10, some 16 => some [(1, false), (5, false), (6, false), (8, false), (9, false), (10, false), (11, false)]
  | 4, some 8, some 9 => some [(1, false), (5, false), (6, false), (8, false), (9, false), (10, false), (11, false)]
  | 9, some 11, some 12 => some [(1, false), (5, false), (6, false), (8, false), (9, false), (10, false), (11, false), (12, false)]
  | 9, some 13, some 14 => some [(1, false), (5, false), (6, false), (8, false), (9, false), (10, false), (11, false), (12, false)]
  | 9, some 7, some 9 => some [(1, false), (5, false), (8, false), (9, false), (10, false)]
  | _, _, _ => none
noncomputable def SeekCodes.f (C : Nat → CallF) (k : Nat) (x0 : List ByteArray) (x1 : ByteArray) := ibody (EE.on sig9) (C k) k live9 sig9 Try.f9 [.sl false (.strs x0), .str x1]
noncomputable def SeekCodes.l0 (C : Nat → CallF) (k j : Nat) (a0 : ByteArray) (a1 : List ByteArray) (a2 : Int) (a3 : Int) (a4 : Int) (a5 : Int) := cutL (EE.on sig9) (C k) k live9 (some 8) [1, 1, 1, 1, 1, 1, 0, 1, 4] [] (bodyOf Try.f9) (kfin (EE.on sig9) sig9 Try.f9) j (mkSt 96 [(1, .str a0), (5, .nilp), (6, .sl false (.strs a1)), (8, .int .i64 a2), (9, .int .i64 a3), (10, .int .i64 a4), (11, .int .i64 a5)] [] [])
noncomputable def SeekCodes.l1 (C : Nat → CallF) (k j : Nat) (a0 : ByteArray) (a1 : List ByteArray) (a2 : List ByteArray) (a3 : Int) (a4 : Int) (a5 : Int) (a6 : Int) := cutL (EE.on sig9) (C k) k live9 (some 8) [1, 1, 1, 1, 1, 1, 0, 1, 4] [] (bodyOf Try.f9) (kfin (EE.on sig9) sig9 Try.f9) j (mkSt 96 [(1, .str a0), (5, .pv [.sl false (.strs a1)] 0), (6, .sl false (.strs a2)), (8, .int .i64 a3), (9, .int .i64 a4), (10, .int .i64 a5), (11, .int .i64 a6)] [] [])
noncomputable def SeekCodes.e0 (C : Nat → CallF) (k j0 : Nat) (a0 : ByteArray) (a1 : List ByteArray) (a2 : Int) (a3 : Int) (a4 : Int) (a5 : Int) (a6 : Int) := cutE (EE.on sig9) (C k) k live9 (some 13) [1, 1, 1, 1, 1, 1, 0, 1, 4, 5, 1, 0, 4, 1, 1] [j0] (bodyOf Try.f9) (kfin (EE.on sig9) sig9 Try.f9) (mkSt 96 [(1, .str a0), (5, .nilp), (6, .sl false (.strs a1)), (8, .int .i64 a2), (9, .int .i64 a3), (10, .int .i64 a4), (11, .int .i64 a5), (12, .int .i64 a6)] [] [])
noncomputable def SeekCodes.e1 (C : Nat → CallF) (k : Nat) (a0 : ByteArray) (a1 : Int) (a2 : Int) (a3 : Int) := cutE (EE.on sig9) (C k) k live9 (some 17) [1, 1, 1, 1, 1, 1, 1] [] (bodyOf Try.f9) (kfin (EE.on sig9) sig9 Try.f9) (mkSt 96 [(1, .str a0), (5, .nilp), (8, .int .i64 a1), (9, .int .i64 a2), (10, .int .i64 a3)] [] [])
noncomputable def SeekCodes.e2 (C : Nat → CallF) (k j0 : Nat) (a0 : ByteArray) (a1 : List ByteArray) (a2 : List ByteArray) (a3 : Int) (a4 : Int) (a5 : Int) (a6 : Int) (a7 : Int) := cutE (EE.on sig9) (C k) k live9 (some 13) [1, 1, 1, 1, 1, 1, 0, 1, 4, 5, 1, 0, 4, 1, 1] [j0] (bodyOf Try.f9) (kfin (EE.on sig9) sig9 Try.f9) (mkSt 96 [(1, .str a0), (5, .pv [.sl false (.strs a1)] 0), (6, .sl false (.strs a2)), (8, .int .i64 a3), (9, .int .i64 a4), (10, .int .i64 a5), (11, .int .i64 a6), (12, .int .i64 a7)] [] [])
noncomputable def SeekCodes.e3 (C : Nat → CallF) (k : Nat) (a0 : ByteArray) (a1 : List ByteArray) (a2 : Int) (a3 : Int) (a4 : Int) := cutE (EE.on sig9) (C k) k live9 (some 17) [1, 1, 1, 1, 1, 1, 1] [] (bodyOf Try.f9) (kfin (EE.on sig9) sig9 Try.f9) (mkSt 96 [(1, .str a0), (5, .pv [.sl false (.strs a1)] 0), (8, .int .i64 a2), (9, .int .i64 a3), (10, .int .i64 a4)] [] [])
noncomputable def SeekCodes.e4 (C : Nat → CallF) (k j0 : Nat) (a0 : ByteArray) (a1 : List ByteArray) (a2 : Int) (a3 : Int) (a4 : Int) (a5 : Int) (a6 : Int) := cutE (EE.on sig9) (C k) k live9 (some 15) [1, 1, 1, 1, 1, 1, 0, 1, 4, 5, 1, 0, 4, 1, 1, 1] [j0] (bodyOf Try.f9) (kfin (EE.on sig9) sig9 Try.f9) (mkSt 96 [(1, .str a0), (5, .nilp), (6, .sl false (.strs a1)), (8, .int .i64 a2), (9, .int .i64 a3), (10, .int .i64 a4), (11, .int .i64 a5), (12, .int .i64 a6)] [] [])
noncomputable def SeekCodes.e5 (C : Nat → CallF) (k j0 : Nat) (a0 : ByteArray) (a1 : List ByteArray) (a2 : List ByteArray) (a3 : Int) (a4 : Int) (a5 : Int) (a6 : Int) (a7 : Int) := cutE (EE.on sig9) (C k) k live9 (some 15) [1, 1, 1, 1, 1, 1, 0, 1, 4, 5, 1, 0, 4, 1, 1, 1] [j0] (bodyOf Try.f9) (kfin (EE.on sig9) sig9 Try.f9) (mkSt 96 [(1, .str a0), (5, .pv [.sl false (.strs a1)] 0), (6, .sl false (.strs a2)), (8, .int .i64 a3), (9, .int .i64 a4), (10, .int .i64 a5), (11, .int .i64 a6), (12, .int .i64 a7)] [] [])
noncomputable def SeekCodes.e6 (C : Nat → CallF) (k j0 : Nat) (a0 : ByteArray) (a1 : List ByteArray) (a2 : Int) (a3 : Int) (a4 : Int) (a5 : Int) := cutE (EE.on sig9) (C k) k live9 (some 9) [1, 1, 1, 1, 1, 1, 0, 1, 4, 5, 1, 1] [j0] (bodyOf Try.f9) (kfin (EE.on sig9) sig9 Try.f9) (mkSt 96 [(1, .str a0), (5, .nilp), (6, .sl false (.strs a1)), (8, .int .i64 a2), (9, .int .i64 a3), (10, .int .i64 a4), (11, .int .i64 a5)] [] [])
noncomputable def SeekCodes.e7 (C : Nat → CallF) (k j0 : Nat) (a0 : ByteArray) (a1 : List ByteArray) (a2 : List ByteArray) (a3 : Int) (a4 : Int) (a5 : Int) (a6 : Int) := cutE (EE.on sig9) (C k) k live9 (some 9) [1, 1, 1, 1, 1, 1, 0, 1, 4, 5, 1, 1] [j0] (bodyOf Try.f9) (kfin (EE.on sig9) sig9 Try.f9) (mkSt 96 [(1, .str a0), (5, .pv [.sl false (.strs a1)] 0), (6, .sl false (.strs a2)), (8, .int .i64 a3), (9, .int .i64 a4), (10, .int .i64 a5), (11, .int .i64 a6)] [] [])
theorem SeekCodes.f_eq (C : Nat → CallF) (k : Nat) (x0 : List ByteArray) (x1 : ByteArray) : SeekCodes.f C k x0 x1 =
  Dict14.s (C k) x0 (fun l1 b2 =>
    Awake14.s (C k) (fun b6 =>
      cond (!b6)
        (Awake14.s (C k) (fun b7 =>
          some (.bool b7, [])))
        (cond (!b2)
          (Awake14.s (C k) (fun b8 =>
            some (.bool b8, [])))
          (cond (decide ((x1.size : Int) > 5000))
            (Awake14.s (C k) (fun b9 =>
              some (.bool b9, [])))
            (SeekCodes.l0 C k k x1 l1 0 0 (-1) 0))))) (fun l3 l4 b5 =>
    Awake14.s (C k) (fun b10 =>
      cond (!b10)
        (Awake14.s (C k) (fun b11 =>
          some (.bool b11, [])))
        (cond (!b5)
          (Awake14.s (C k) (fun b12 =>
            some (.bool b12, [])))
          (cond (decide ((x1.size : Int) > 5000))
            (Awake14.s (C k) (fun b13 =>
              some (.bool b13, [])))
            (SeekCodes.l1 C k k x1 l3 l4 0 0 (-1) 0))))) := by kernel_rfl
theorem SeekCodes.l0_eq (C : Nat → CallF) (k j : Nat) (a0 : ByteArray) (a1 : List ByteArray) (a2 : Int) (a3 : Int) (a4 : Int) (a5 : Int) : SeekCodes.l0 C k (j + 1) a0 a1 a2 a3 a4 a5 =
  cond (decide (a5 < (a1.length : Int)))
    (if (0 : Int) ≤ a5 then
      (match a1[a5.toNat]? with
        | some x14 => RefCompare.s (C k) x14 a0 (fun n15 =>
          cond (decide (n15 < 0))
            (SeekCodes.e0 C k j a0 a1 (IntKind.i64.wrap (a2 + 1)) a3 a4 a5 n15)
            (SeekCodes.e0 C k j a0 a1 a2 a3 a4 a5 n15))
        | none => none)
    else none)
    (SeekCodes.e1 C k a0 a2 a3 a4) := (stop_eq (some 8) _ _ _).trans (by kernel_rfl)
theorem SeekCodes.l1_eq (C : Nat → CallF) (k j : Nat) (a0 : ByteArray) (a1 : List ByteArray) (a2 : List ByteArray) (a3 : Int) (a4 : Int) (a5 : Int) (a6 : Int) : SeekCodes.l1 C k (j + 1) a0 a1 a2 a3 a4 a5 a6 =
  cond (decide (a6 < (a2.length : Int)))
    (if (0 : Int) ≤ a6 then
      (match a2[a6.toNat]? with
        | some x16 => RefCompare.s (C k) x16 a0 (fun n17 =>
          cond (decide (n17 < 0))
            (SeekCodes.e2 C k j a0 a1 a2 (IntKind.i64.wrap (a3 + 1)) a4 a5 a6 n17)
            (SeekCodes.e2 C k j a0 a1 a2 a3 a4 a5 a6 n17))
        | none => none)
    else none)
    (SeekCodes.e3 C k a0 a1 a3 a4 a5) := (stop_eq (some 8) _ _ _).trans (by kernel_rfl)
theorem SeekCodes.e0_eq (C : Nat → CallF) (k j0 : Nat) (a0 : ByteArray) (a1 : List ByteArray) (a2 : Int) (a3 : Int) (a4 : Int) (a5 : Int) (a6 : Int) : SeekCodes.e0 C k j0 a0 a1 a2 a3 a4 a5 a6 =
  cond (decide (a6 ≤ 0))
    (SeekCodes.e4 C k j0 a0 a1 a2 (IntKind.i64.wrap (a3 + 1)) a4 a5 a6)
    (SeekCodes.e4 C k j0 a0 a1 a2 a3 a4 a5 a6) := (stop_eq (some 13) _ _ _).trans (by kernel_rfl)
theorem SeekCodes.e1_eq (C : Nat → CallF) (k : Nat) (a0 : ByteArray) (a1 : Int) (a2 : Int) (a3 : Int) : SeekCodes.e1 C k a0 a1 a2 a3 =
  none := (stop_eq (some 17) _ _ _).trans (by kernel_rfl)
theorem SeekCodes.e2_eq (C : Nat → CallF) (k j0 : Nat) (a0 : ByteArray) (a1 : List ByteArray) (a2 : List ByteArray) (a3 : Int) (a4 : Int) (a5 : Int) (a6 : Int) (a7 : Int) : SeekCodes.e2 C k j0 a0 a1 a2 a3 a4 a5 a6 a7 =
  cond (decide (a7 ≤ 0))
    (SeekCodes.e5 C k j0 a0 a1 a2 a3 (IntKind.i64.wrap (a4 + 1)) a5 a6 a7)
    (SeekCodes.e5 C k j0 a0 a1 a2 a3 a4 a5 a6 a7) := (stop_eq (some 13) _ _ _).trans (by kernel_rfl)
theorem SeekCodes.e3_eq (C : Nat → CallF) (k : Nat) (a0 : ByteArray) (a1 : List ByteArray) (a2 : Int) (a3 : Int) (a4 : Int) : SeekCodes.e3 C k a0 a1 a2 a3 a4 =
  SeekCode.s (C k) a1 a0 (fun n18 b19 =>
    cond (b19 == (decide (a4 ≥ 0)))
      (cond b19
        (cond (n18 == a4)
          (SeekLower.s (C k) a1 a0 (fun n20 =>
            cond (n20 == a2)
              (SeekUpper.s (C k) a1 a0 (fun n21 =>
                some (.bool (n21 == a3), [])))
              (some (.bool false, []))))
          (cond (!b19)
            (cond (n18 == 0)
              (SeekLower.s (C k) a1 a0 (fun n22 =>
                cond (n22 == a2)
                  (SeekUpper.s (C k) a1 a0 (fun n23 =>
                    some (.bool (n23 == a3), [])))
                  (some (.bool false, []))))
              (some (.bool false, [])))
            (some (.bool false, []))))
        (cond (!b19)
          (cond (n18 == 0)
            (SeekLower.s (C k) a1 a0 (fun n24 =>
              cond (n24 == a2)
                (SeekUpper.s (C k) a1 a0 (fun n25 =>
                  some (.bool (n25 == a3), [])))
                (some (.bool false, []))))
            (some (.bool false, [])))
          (some (.bool false, []))))
      (some (.bool false, []))) := (stop_eq (some 17) _ _ _).trans (by kernel_rfl)
theorem SeekCodes.e4_eq (C : Nat → CallF) (k j0 : Nat) (a0 : ByteArray) (a1 : List ByteArray) (a2 : Int) (a3 : Int) (a4 : Int) (a5 : Int) (a6 : Int) : SeekCodes.e4 C k j0 a0 a1 a2 a3 a4 a5 a6 =
  cond (a6 == 0)
    (SeekCodes.e6 C k j0 a0 a1 a2 a3 a5 a5)
    (SeekCodes.e6 C k j0 a0 a1 a2 a3 a4 a5) := (stop_eq (some 15) _ _ _).trans (by kernel_rfl)
theorem SeekCodes.e5_eq (C : Nat → CallF) (k j0 : Nat) (a0 : ByteArray) (a1 : List ByteArray) (a2 : List ByteArray) (a3 : Int) (a4 : Int) (a5 : Int) (a6 : Int) (a7 : Int) : SeekCodes.e5 C k j0 a0 a1 a2 a3 a4 a5 a6 a7 =
  cond (a7 == 0)
    (SeekCodes.e7 C k j0 a0 a1 a2 a3 a4 a6 a6)
    (SeekCodes.e7 C k j0 a0 a1 a2 a3 a4 a5 a6) := (stop_eq (some 15) _ _ _).trans (by kernel_rfl)
theorem SeekCodes.e6_eq (C : Nat → CallF) (k j0 : Nat) (a0 : ByteArray) (a1 : List ByteArray) (a2 : Int) (a3 : Int) (a4 : Int) (a5 : Int) : SeekCodes.e6 C k j0 a0 a1 a2 a3 a4 a5 =
  SeekCodes.l0 C k j0 a0 a1 a2 a3 a4 (IntKind.i64.wrap (a5 + 1)) := (stop_eq (some 9) _ _ _).trans (by kernel_rfl)
theorem SeekCodes.e7_eq (C : Nat → CallF) (k j0 : Nat) (a0 : ByteArray) (a1 : List ByteArray) (a2 : List ByteArray) (a3 : Int) (a4 : Int) (a5 : Int) (a6 : Int) : SeekCodes.e7 C k j0 a0 a1 a2 a3 a4 a5 a6 =
  SeekCodes.l1 C k j0 a0 a1 a2 a3 a4 a5 (IntKind.i64.wrap (a6 + 1)) := (stop_eq (some 9) _ _ _).trans (by kernel_rfl)
def live10 : Live := fun q a b => match q, a, b with
  | 4, some 8, some 9 => some [(1, false), (6, false), (8, false), (9, false), (10, false)]
  | 9, some 7, some 9 => some []
  | _, _, _ => none
noncomputable def SeekPrefixes.f (C : Nat → CallF) (k : Nat) (x0 : List ByteArray) (x1 : ByteArray) := ibody (EE.on sig10) (C k) k live10 sig10 Try.f10 [.sl false (.strs x0), .str x1]
noncomputable def SeekPrefixes.l0 (C : Nat → CallF) (k j : Nat) (a0 : ByteArray) (a1 : List ByteArray) (a2 : Int) (a3 : Int) (a4 : Int) := cutL (EE.on sig10) (C k) k live10 (some 8) [1, 1, 1, 1, 1, 0, 1, 4] [] (bodyOf Try.f10) (kfin (EE.on sig10) sig10 Try.f10) j (mkSt 72 [(1, .str a0), (6, .sl false (.strs a1)), (8, .int .i64 a2), (9, .int .i64 a3), (10, .int .i64 a4)] [] [])
noncomputable def SeekPrefixes.e0 (C : Nat → CallF) (k : Nat) := cutE (EE.on sig10) (C k) k live10 (some 12) [1, 1, 1, 1, 1, 1] [] (bodyOf Try.f10) (kfin (EE.on sig10) sig10 Try.f10) (mkSt 72 [] [] [])
theorem SeekPrefixes.f_eq (C : Nat → CallF) (k : Nat) (x0 : List ByteArray) (x1 : ByteArray) : SeekPrefixes.f C k x0 x1 =
  Dict14.s (C k) x0 (fun l1 b2 =>
    Awake14.s (C k) (fun b6 =>
      cond (!b6)
        (Awake14.s (C k) (fun b7 =>
          some (.bool b7, [])))
        (cond (!b2)
          (Awake14.s (C k) (fun b8 =>
            some (.bool b8, [])))
          (cond (decide ((x1.size : Int) > 5000))
            (Awake14.s (C k) (fun b9 =>
              some (.bool b9, [])))
            (none))))) (fun l3 l4 b5 =>
    Awake14.s (C k) (fun b10 =>
      cond (!b10)
        (Awake14.s (C k) (fun b11 =>
          some (.bool b11, [])))
        (cond (!b5)
          (Awake14.s (C k) (fun b12 =>
            some (.bool b12, [])))
          (cond (decide ((x1.size : Int) > 5000))
            (Awake14.s (C k) (fun b13 =>
              some (.bool b13, [])))
            (SeekPrefix.s (C k) l3 x1 (fun n14 n15 =>
              SeekLower.s (C k) l3 x1 (fun n16 =>
                cond (n14 != n16)
                  (some (.bool false, []))
                  (cond (decide (n15 < n14))
                    (some (.bool false, []))
                    (cond (decide (n15 > (l4.length : Int)))
                      (some (.bool false, []))
                      (SeekPrefixes.l0 C k k x1 l4 n14 n15 0)))))))))) := by kernel_rfl
theorem SeekPrefixes.l0_eq (C : Nat → CallF) (k j : Nat) (a0 : ByteArray) (a1 : List ByteArray) (a2 : Int) (a3 : Int) (a4 : Int) : SeekPrefixes.l0 C k (j + 1) a0 a1 a2 a3 a4 =
  cond (decide (a4 < (a1.length : Int)))
    (if (0 : Int) ≤ a4 then
      (match a1[a4.toNat]? with
        | some x17 => HasPre.s (C k) x17 a0 (fun b18 =>
          cond (decide (a4 ≥ a2))
            (cond (!(b18 == (decide (a4 < a3))))
              (some (.bool false, []))
              (SeekPrefixes.l0 C k j a0 a1 a2 a3 (IntKind.i64.wrap (a4 + 1))))
            (cond (!(b18 == false))
              (some (.bool false, []))
              (SeekPrefixes.l0 C k j a0 a1 a2 a3 (IntKind.i64.wrap (a4 + 1)))))
        | none => none)
    else none)
    (SeekPrefixes.e0 C k) := (stop_eq (some 8) _ _ _).trans (by kernel_rfl)
theorem SeekPrefixes.e0_eq (C : Nat → CallF) (k : Nat) : SeekPrefixes.e0 C k =
  some (.bool true, []) := (stop_eq (some 12) _ _ _).trans (by kernel_rfl)
def live11 : Live := fun q a b => match q, a, b with
  | 2, some 11, some 19 => some [(0, false), (1, false), (5, false), (6, false), (8, false), (9, false), (11, false), (12, false)]
  | 4, some 15, some 16 => some [(0, false), (1, false), (5, false), (6, false), (8, false), (9, false), (11, false), (12, false), (13, false), (14, false)]
  | 4, some 9, some 10 => some [(0, false), (1, false), (5, false), (6, false), (8, false), (9, false), (11, false), (12, false)]
  | 9, some 14, some 16 => some [(0, false), (1, false), (5, false), (6, false), (8, false), (9, false), (11, false), (12, false), (13, false)]
  | 9, some 8, some 10 => some [(0, false), (1, false), (5, false), (8, false)]
  | _, _, _ => none
noncomputable def SeekMaps.f (C : Nat → CallF) (k : Nat) (x0 : List ByteArray) (x1 : List ByteArray) := ibody (EE.on sig11) (C k) k live11 sig11 Try.f11 [.sl false (.strs x0), .sl false (.strs x1)]
noncomputable def SeekMaps.l0 (C : Nat → CallF) (k j : Nat) (a0 : List ByteArray) (a1 : List ByteArray) (a2 : List ByteArray) (a3 : List ByteArray) (a4 : List ByteArray) (a5 : List ByteArray) (a6 : Int) (a7 : List Int) := cutL (EE.on sig11) (C k) k live11 (some 9) [1, 1, 1, 1, 1, 1, 0, 1, 4] [] (bodyOf Try.f11) (kfin (EE.on sig11) sig11 Try.f11) j (mkSt 122 [(0, .sl false (.strs a0)), (1, .sl false (.strs a1)), (5, .pv [.sl false (.strs a2)] 0), (6, .sl false (.strs a3)), (8, .pv [.sl false (.strs a4)] 0), (9, .sl false (.strs a5)), (11, .rs 0), (12, .int .i64 a6)] [.sl true (.ints .i64 a7)] [])
noncomputable def SeekMaps.l1 (C : Nat → CallF) (k j j0 : Nat) (a0 : List ByteArray) (a1 : List ByteArray) (a2 : List ByteArray) (a3 : List ByteArray) (a4 : List ByteArray) (a5 : List ByteArray) (a6 : Int) (a7 : Bool) (a8 : Int) (a9 : List Int) := cutL (EE.on sig11) (C k) k live11 (some 15) [1, 1, 1, 1, 1, 1, 0, 1, 4, 5, 1, 0, 4, 1, 1, 0, 1, 4] [j0] (bodyOf Try.f11) (kfin (EE.on sig11) sig11 Try.f11) j (mkSt 122 [(0, .sl false (.strs a0)), (1, .sl false (.strs a1)), (5, .pv [.sl false (.strs a2)] 0), (6, .sl false (.strs a3)), (8, .pv [.sl false (.strs a4)] 0), (9, .sl false (.strs a5)), (11, .rs 0), (12, .int .i64 a6), (13, .bool a7), (14, .int .i64 a8)] [.sl true (.ints .i64 a9)] [])
noncomputable def SeekMaps.e0 (C : Nat → CallF) (k : Nat) (a0 : List ByteArray) (a1 : List ByteArray) (a2 : List ByteArray) (a3 : List ByteArray) := cutE (EE.on sig11) (C k) k live11 (some 20) [1, 1, 1, 1, 1, 1, 1] [] (bodyOf Try.f11) (kfin (EE.on sig11) sig11 Try.f11) (mkSt 122 [(0, .sl false (.strs a0)), (1, .sl false (.strs a1)), (5, .pv [.sl false (.strs a2)] 0), (8, .pv [.sl false (.strs a3)] 0)] [] [])
noncomputable def SeekMaps.e1 (C : Nat → CallF) (k j0 : Nat) (a0 : List ByteArray) (a1 : List ByteArray) (a2 : List ByteArray) (a3 : List ByteArray) (a4 : List ByteArray) (a5 : List ByteArray) (a6 : Int) (a7 : Bool) (a8 : List Int) := cutE (EE.on sig11) (C k) k live11 (some 18) [1, 1, 1, 1, 1, 1, 0, 1, 4, 5, 1, 0, 4, 1, 1, 1] [j0] (bodyOf Try.f11) (kfin (EE.on sig11) sig11 Try.f11) (mkSt 122 [(0, .sl false (.strs a0)), (1, .sl false (.strs a1)), (5, .pv [.sl false (.strs a2)] 0), (6, .sl false (.strs a3)), (8, .pv [.sl false (.strs a4)] 0), (9, .sl false (.strs a5)), (11, .rs 0), (12, .int .i64 a6), (13, .bool a7)] [.sl true (.ints .i64 a8)] [])
noncomputable def SeekMaps.e2 (C : Nat → CallF) (k j0 : Nat) (a0 : List ByteArray) (a1 : List ByteArray) (a2 : List ByteArray) (a3 : List ByteArray) (a4 : List ByteArray) (a5 : List ByteArray) (a6 : Int) (a7 : List Int) := cutE (EE.on sig11) (C k) k live11 (some 10) [1, 1, 1, 1, 1, 1, 0, 1, 4, 5, 1, 1] [j0] (bodyOf Try.f11) (kfin (EE.on sig11) sig11 Try.f11) (mkSt 122 [(0, .sl false (.strs a0)), (1, .sl false (.strs a1)), (5, .pv [.sl false (.strs a2)] 0), (6, .sl false (.strs a3)), (8, .pv [.sl false (.strs a4)] 0), (9, .sl false (.strs a5)), (11, .rs 0), (12, .int .i64 a6)] [.sl true (.ints .i64 a7)] [])
theorem SeekMaps.f_eq (C : Nat → CallF) (k : Nat) (x0 : List ByteArray) (x1 : List ByteArray) : SeekMaps.f C k x0 x1 =
  Dict14.s (C k) x0 (fun l1 b2 =>
    Dict14.s (C k) x1 (fun l6 b7 =>
      Awake14.s (C k) (fun b11 =>
        cond (!b11)
          (Awake14.s (C k) (fun b12 =>
            some (.bool b12, [])))
          (cond (!b2)
            (Awake14.s (C k) (fun b13 =>
              some (.bool b13, [])))
            (cond (!b7)
              (Awake14.s (C k) (fun b14 =>
                some (.bool b14, [])))
              (none))))) (fun l8 l9 b10 =>
      Awake14.s (C k) (fun b15 =>
        cond (!b15)
          (Awake14.s (C k) (fun b16 =>
            some (.bool b16, [])))
          (cond (!b2)
            (Awake14.s (C k) (fun b17 =>
              some (.bool b17, [])))
            (cond (!b10)
              (Awake14.s (C k) (fun b18 =>
                some (.bool b18, [])))
              (none)))))) (fun l3 l4 b5 =>
    Dict14.s (C k) x1 (fun l19 b20 =>
      Awake14.s (C k) (fun b24 =>
        cond (!b24)
          (Awake14.s (C k) (fun b25 =>
            some (.bool b25, [])))
          (cond (!b5)
            (Awake14.s (C k) (fun b26 =>
              some (.bool b26, [])))
            (cond (!b20)
              (Awake14.s (C k) (fun b27 =>
                some (.bool b27, [])))
              (none))))) (fun l21 l22 b23 =>
      Awake14.s (C k) (fun b28 =>
        cond (!b28)
          (Awake14.s (C k) (fun b29 =>
            some (.bool b29, [])))
          (cond (!b5)
            (Awake14.s (C k) (fun b30 =>
              some (.bool b30, [])))
            (cond (!b23)
              (Awake14.s (C k) (fun b31 =>
                some (.bool b31, [])))
              (SeekMap.q (C k) l3 l21 (fun l32 =>
                cond ((l32.length : Int) != (l4.length : Int))
                  (some (.bool false, []))
                  (SeekMaps.l0 C k k x0 x1 l3 l4 l21 l22 0 l32)))))))) := by kernel_rfl
theorem SeekMaps.l0_eq (C : Nat → CallF) (k j : Nat) (a0 : List ByteArray) (a1 : List ByteArray) (a2 : List ByteArray) (a3 : List ByteArray) (a4 : List ByteArray) (a5 : List ByteArray) (a6 : Int) (a7 : List Int) : SeekMaps.l0 C k (j + 1) a0 a1 a2 a3 a4 a5 a6 a7 =
  cond (decide (a6 < (a3.length : Int)))
    (if (0 : Int) ≤ a6 then
      if a6 < (a7.length : Int) ∧ 1 = 1 then
        (match a7[a6.toNat]? with
          | some x33 => cond (decide (x33 ≥ (a5.length : Int)))
            (some (.bool false, []))
            (if (0 : Int) ≤ a6 then
              if a6 < (a7.length : Int) ∧ 1 = 1 then
                (match a7[a6.toNat]? with
                  | some x34 => cond (decide (x34 ≥ 0))
                    (if (0 : Int) ≤ a6 then
                      if a6 < (a7.length : Int) ∧ 1 = 1 then
                        (match a7[a6.toNat]? with
                          | some x35 => if (0 : Int) ≤ x35 then
                            (match a5[x35.toNat]? with
                              | some x36 => if (0 : Int) ≤ a6 then
                                (match a3[a6.toNat]? with
                                  | some x37 => cond (!(x36.toList == x37.toList))
                                    (some (.bool false, []))
                                    (SeekMaps.l1 C k k j a0 a1 a2 a3 a4 a5 a6 false 0 a7)
                                  | none => none)
                              else none
                              | none => none)
                          else none
                          | none => none)
                      else none
                    else none)
                    (SeekMaps.l1 C k k j a0 a1 a2 a3 a4 a5 a6 false 0 a7)
                  | none => none)
              else none
            else none)
          | none => none)
      else none
    else none)
    (SeekMaps.e0 C k a0 a1 a2 a4) := (stop_eq (some 9) _ _ _).trans (by kernel_rfl)
theorem SeekMaps.l1_eq (C : Nat → CallF) (k j j0 : Nat) (a0 : List ByteArray) (a1 : List ByteArray) (a2 : List ByteArray) (a3 : List ByteArray) (a4 : List ByteArray) (a5 : List ByteArray) (a6 : Int) (a7 : Bool) (a8 : Int) (a9 : List Int) : SeekMaps.l1 C k (j + 1) j0 a0 a1 a2 a3 a4 a5 a6 a7 a8 a9 =
  cond (decide (a8 < (a5.length : Int)))
    (cond a7
      (SeekMaps.l1 C k j j0 a0 a1 a2 a3 a4 a5 a6 true (IntKind.i64.wrap (a8 + 1)) a9)
      (if (0 : Int) ≤ a8 then
        (match a5[a8.toNat]? with
          | some x38 => if (0 : Int) ≤ a6 then
            (match a3[a6.toNat]? with
              | some x39 => SeekMaps.l1 C k j j0 a0 a1 a2 a3 a4 a5 a6 (x38.toList == x39.toList) (IntKind.i64.wrap (a8 + 1)) a9
              | none => none)
          else none
          | none => none)
      else none))
    (SeekMaps.e1 C k j0 a0 a1 a2 a3 a4 a5 a6 a7 a9) := (stop_eq (some 15) _ _ _).trans (by kernel_rfl)
theorem SeekMaps.e0_eq (C : Nat → CallF) (k : Nat) (a0 : List ByteArray) (a1 : List ByteArray) (a2 : List ByteArray) (a3 : List ByteArray) : SeekMaps.e0 C k a0 a1 a2 a3 =
  SeekMerge.q (C k) a2 a3 (fun l40 =>
    if ([] : List ByteArray).length + a0.length ≤ bound ∧ 1 = 1 then
      if (([] : List ByteArray) ++ a0).length + a1.length ≤ bound ∧ 1 = 1 then
        RefSorted.q (C k) ((([] : List ByteArray) ++ a0) ++ a1) (fun l41 =>
          SameS.s (C k) l40 l41 (fun b42 =>
            some (.bool b42, [])))
      else none
    else none) := (stop_eq (some 20) _ _ _).trans (by kernel_rfl)
theorem SeekMaps.e1_eq (C : Nat → CallF) (k j0 : Nat) (a0 : List ByteArray) (a1 : List ByteArray) (a2 : List ByteArray) (a3 : List ByteArray) (a4 : List ByteArray) (a5 : List ByteArray) (a6 : Int) (a7 : Bool) (a8 : List Int) : SeekMaps.e1 C k j0 a0 a1 a2 a3 a4 a5 a6 a7 a8 =
  if (0 : Int) ≤ a6 then
    if a6 < (a8.length : Int) ∧ 1 = 1 then
      (match a8[a6.toNat]? with
        | some x43 => cond (!(a7 == (decide (x43 ≥ 0))))
          (some (.bool false, []))
          (if (0 : Int) ≤ a6 then
            if a6 < (a8.length : Int) ∧ 1 = 1 then
              (match a8[a6.toNat]? with
                | some x44 => cond (decide (x44 < (-1)))
                  (some (.bool false, []))
                  (SeekMaps.e2 C k j0 a0 a1 a2 a3 a4 a5 a6 a8)
                | none => none)
            else none
          else none)
        | none => none)
    else none
  else none := (stop_eq (some 18) _ _ _).trans (by kernel_rfl)
theorem SeekMaps.e2_eq (C : Nat → CallF) (k j0 : Nat) (a0 : List ByteArray) (a1 : List ByteArray) (a2 : List ByteArray) (a3 : List ByteArray) (a4 : List ByteArray) (a5 : List ByteArray) (a6 : Int) (a7 : List Int) : SeekMaps.e2 C k j0 a0 a1 a2 a3 a4 a5 a6 a7 =
  SeekMaps.l0 C k j0 a0 a1 a2 a3 a4 a5 (IntKind.i64.wrap (a6 + 1)) a7 := (stop_eq (some 10) _ _ _).trans (by kernel_rfl)
def live12 : Live := fun q a b => match q, a, b with
  | 4, some 10, some 11 => some [(1, false), (6, false), (8, false), (9, false), (12, false)]
  | 9, some 9, some 11 => some []
  | _, _, _ => none
noncomputable def SeekBounds.f (C : Nat → CallF) (k : Nat) (x0 : List ByteArray) (x1 : ByteArray) := ibody (EE.on sig12) (C k) k live12 sig12 Try.f12 [.sl false (.strs x0), .str x1]
noncomputable def SeekBounds.l0 (C : Nat → CallF) (k j : Nat) (a0 : ByteArray) (a1 : List ByteArray) (a2 : Int) (a3 : Int) (a4 : Int) := cutL (EE.on sig12) (C k) k live12 (some 10) [1, 1, 1, 1, 1, 1, 1, 0, 1, 4] [] (bodyOf Try.f12) (kfin (EE.on sig12) sig12 Try.f12) j (mkSt 94 [(1, .str a0), (6, .sl false (.strs a1)), (8, .int .i64 a2), (9, .int .i64 a3), (12, .int .i64 a4)] [] [])
noncomputable def SeekBounds.e0 (C : Nat → CallF) (k : Nat) := cutE (EE.on sig12) (C k) k live12 (some 14) [1, 1, 1, 1, 1, 1, 1, 1] [] (bodyOf Try.f12) (kfin (EE.on sig12) sig12 Try.f12) (mkSt 94 [] [] [])
theorem SeekBounds.f_eq (C : Nat → CallF) (k : Nat) (x0 : List ByteArray) (x1 : ByteArray) : SeekBounds.f C k x0 x1 =
  Dict14.s (C k) x0 (fun l1 b2 =>
    Awake14.s (C k) (fun b6 =>
      cond (!b6)
        (Awake14.s (C k) (fun b7 =>
          some (.bool b7, [])))
        (cond (!b2)
          (Awake14.s (C k) (fun b8 =>
            some (.bool b8, [])))
          (cond (decide ((x1.size : Int) > 5000))
            (Awake14.s (C k) (fun b9 =>
              some (.bool b9, [])))
            (none))))) (fun l3 l4 b5 =>
    Awake14.s (C k) (fun b10 =>
      cond (!b10)
        (Awake14.s (C k) (fun b11 =>
          some (.bool b11, [])))
        (cond (!b5)
          (Awake14.s (C k) (fun b12 =>
            some (.bool b12, [])))
          (cond (decide ((x1.size : Int) > 5000))
            (Awake14.s (C k) (fun b13 =>
              some (.bool b13, [])))
            (SeekLower.s (C k) l3 x1 (fun n14 =>
              SeekUpper.s (C k) l3 x1 (fun n15 =>
                SeekCode.s (C k) l3 x1 (fun n16 b17 =>
                  cond (!(b17 == (n14 != n15)))
                    (some (.bool false, []))
                    (cond (decide (n15 > (IntKind.i64.wrap (n14 + 1))))
                      (some (.bool false, []))
                      (cond (decide (n14 < 0))
                        (some (.bool false, []))
                        (cond (decide (n15 > (l4.length : Int)))
                          (some (.bool false, []))
                          (SeekBounds.l0 C k k x1 l4 n14 n15 0)))))))))))) := by kernel_rfl
theorem SeekBounds.l0_eq (C : Nat → CallF) (k j : Nat) (a0 : ByteArray) (a1 : List ByteArray) (a2 : Int) (a3 : Int) (a4 : Int) : SeekBounds.l0 C k (j + 1) a0 a1 a2 a3 a4 =
  cond (decide (a4 < (a1.length : Int)))
    (if (0 : Int) ≤ a4 then
      (match a1[a4.toNat]? with
        | some x18 => RefCompare.s (C k) x18 a0 (fun n19 =>
          cond (!((decide (n19 < 0)) == (decide (a4 < a2))))
            (some (.bool false, []))
            (if (0 : Int) ≤ a4 then
              (match a1[a4.toNat]? with
                | some x20 => RefCompare.s (C k) x20 a0 (fun n21 =>
                  cond (!((decide (n21 > 0)) == (decide (a4 ≥ a3))))
                    (some (.bool false, []))
                    (SeekBounds.l0 C k j a0 a1 a2 a3 (IntKind.i64.wrap (a4 + 1))))
                | none => none)
            else none))
        | none => none)
    else none)
    (SeekBounds.e0 C k) := (stop_eq (some 10) _ _ _).trans (by kernel_rfl)
theorem SeekBounds.e0_eq (C : Nat → CallF) (k : Nat) : SeekBounds.e0 C k =
  some (.bool true, []) := (stop_eq (some 14) _ _ _).trans (by kernel_rfl)
def live13 : Live := fun q a b => match q, a, b with
  | 4, some 18, some 19 => some [(3, false), (4, false), (8, false), (12, false), (13, false)]
  | 4, some 9, some 10 => some [(3, false), (4, false), (8, false), (9, false)]
  | 9, some 17, some 19 => some [(3, false), (4, false)]
  | 9, some 8, some 10 => some [(3, false), (4, false), (8, false)]
  | _, _, _ => none
noncomputable def SeekAll.f (C : Nat → CallF) (k : Nat) (x0 : List ByteArray) := ibody (EE.on sig13) (C k) k live13 sig13 Try.f13 [.sl false (.strs x0)]
noncomputable def SeekAll.l0 (C : Nat → CallF) (k j : Nat) (a0 : List ByteArray) (a1 : List ByteArray) (a2 : Int) (a3 : List Int) := cutL (EE.on sig13) (C k) k live13 (some 9) [1, 1, 1, 1, 1, 1, 0, 1, 4] [] (bodyOf Try.f13) (kfin (EE.on sig13) sig13 Try.f13) j (mkSt 96 [(3, .pv [.sl false (.strs a0)] 0), (4, .sl false (.strs a1)), (8, .rs 0), (9, .int .i64 a2)] [.sl true (.ints .i64 a3)] [])
noncomputable def SeekAll.e0 (C : Nat → CallF) (k : Nat) (a0 : List ByteArray) (a1 : List ByteArray) (a2 : List Int) := cutE (EE.on sig13) (C k) k live13 (some 14) [1, 1, 1, 1, 1, 1, 1] [] (bodyOf Try.f13) (kfin (EE.on sig13) sig13 Try.f13) (mkSt 96 [(3, .pv [.sl false (.strs a0)] 0), (4, .sl false (.strs a1)), (8, .rs 0)] [.sl true (.ints .i64 a2)] [])
noncomputable def SeekAll.l1 (C : Nat → CallF) (k j : Nat) (a0 : List ByteArray) (a1 : List ByteArray) (a2 : Int) (a3 : List Int) (a4 : List ByteArray) := cutL (EE.on sig13) (C k) k live13 (some 18) [1, 1, 1, 1, 1, 1, 1, 1, 1, 0, 1, 4] [] (bodyOf Try.f13) (kfin (EE.on sig13) sig13 Try.f13) j (mkSt 96 [(3, .pv [.sl false (.strs a0)] 0), (4, .sl false (.strs a1)), (8, .rs 0), (12, .rs 1), (13, .int .i64 a2)] [.sl true (.ints .i64 a3), .sl true (.strs a4)] [])
noncomputable def SeekAll.e1 (C : Nat → CallF) (k : Nat) (a0 : List ByteArray) (a1 : List ByteArray) := cutE (EE.on sig13) (C k) k live13 (some 22) [1, 1, 1, 1, 1, 1, 1, 1, 1, 1] [] (bodyOf Try.f13) (kfin (EE.on sig13) sig13 Try.f13) (mkSt 96 [(3, .pv [.sl false (.strs a0)] 0), (4, .sl false (.strs a1))] [] [])
theorem SeekAll.f_eq (C : Nat → CallF) (k : Nat) (x0 : List ByteArray) : SeekAll.f C k x0 =
  Dict14.s (C k) x0 (fun l1 b2 =>
    Awake14.s (C k) (fun b6 =>
      cond (!b6)
        (Awake14.s (C k) (fun b7 =>
          some (.bool b7, [])))
        (cond (!b2)
          (Awake14.s (C k) (fun b8 =>
            some (.bool b8, [])))
          (none)))) (fun l3 l4 b5 =>
    Awake14.s (C k) (fun b9 =>
      cond (!b9)
        (Awake14.s (C k) (fun b10 =>
          some (.bool b10, [])))
        (cond (!b5)
          (Awake14.s (C k) (fun b11 =>
            some (.bool b11, [])))
          (SeekPrefix.s (C k) l3 (⟨#[]⟩ : ByteArray) (fun n12 n13 =>
            cond (n12 != 0)
              (some (.bool false, []))
              (cond (n13 != (l4.length : Int))
                (some (.bool false, []))
                (SeekMap.q (C k) l3 l3 (fun l14 =>
                  SeekAll.l0 C k k l3 l4 0 l14)))))))) := by kernel_rfl
theorem SeekAll.l0_eq (C : Nat → CallF) (k j : Nat) (a0 : List ByteArray) (a1 : List ByteArray) (a2 : Int) (a3 : List Int) : SeekAll.l0 C k (j + 1) a0 a1 a2 a3 =
  cond (decide (a2 < (a1.length : Int)))
    (if (0 : Int) ≤ a2 then
      (match a1[a2.toNat]? with
        | some x15 => SeekCode.s (C k) a0 x15 (fun n16 b17 =>
          cond (!b17)
            (some (.bool false, []))
            (cond (n16 != a2)
              (some (.bool false, []))
              (if (0 : Int) ≤ a2 then
                if a2 < (a3.length : Int) ∧ 1 = 1 then
                  (match a3[a2.toNat]? with
                    | some x18 => cond (x18 != a2)
                      (some (.bool false, []))
                      (SeekAll.l0 C k j a0 a1 (IntKind.i64.wrap (a2 + 1)) a3)
                    | none => none)
                else none
              else none)))
        | none => none)
    else none)
    (SeekAll.e0 C k a0 a1 a3) := (stop_eq (some 9) _ _ _).trans (by kernel_rfl)
theorem SeekAll.e0_eq (C : Nat → CallF) (k : Nat) (a0 : List ByteArray) (a1 : List ByteArray) (a2 : List Int) : SeekAll.e0 C k a0 a1 a2 =
  SeekMerge.q (C k) a0 a0 (fun l19 =>
    SameS.s (C k) l19 a1 (fun b20 =>
      cond (!b20)
        (some (.bool false, []))
        (SeekAll.l1 C k k a0 a1 0 a2 l19))) := (stop_eq (some 14) _ _ _).trans (by kernel_rfl)
theorem SeekAll.l1_eq (C : Nat → CallF) (k j : Nat) (a0 : List ByteArray) (a1 : List ByteArray) (a2 : Int) (a3 : List Int) (a4 : List ByteArray) : SeekAll.l1 C k (j + 1) a0 a1 a2 a3 a4 =
  cond (decide (a2 < (a4.length : Int)))
    (if (0 : Int) ≤ a2 then
      if a2 < (a4.length : Int) ∧ 1 = 1 then
        if (0 : Int) ≤ a2 then
          if a2 < (a3.length : Int) ∧ 1 = 1 then
            SeekAll.l1 C k j a0 a1 (IntKind.i64.wrap (a2 + 1)) (a3.set a2.toNat (-9)) (a4.set a2.toNat (⟨#[63]⟩ : ByteArray))
          else none
        else none
      else none
    else none)
    (SeekAll.e1 C k a0 a1) := (stop_eq (some 18) _ _ _).trans (by kernel_rfl)
theorem SeekAll.e1_eq (C : Nat → CallF) (k : Nat) (a0 : List ByteArray) (a1 : List ByteArray) : SeekAll.e1 C k a0 a1 =
  DictAll.q (C k) a0 (fun l21 =>
    SameS.s (C k) l21 a1 (fun b22 =>
      some (.bool b22, []))) := (stop_eq (some 22) _ _ _).trans (by kernel_rfl)
/-- the table's equations for these functions -/
structure EqFnL (C : Nat → CallF) : Prop where
  Awake14 : ∀ (k : Nat), C (k + 1) 39 [] = Awake14.f C k
  SeekCodes : ∀ (k : Nat) (x0 : List ByteArray) (x1 : ByteArray), C (k + 1) 9 [.sl false (.strs x0), .str x1] = SeekCodes.f C k x0 x1
  SeekPrefixes : ∀ (k : Nat) (x0 : List ByteArray) (x1 : ByteArray), C (k + 1) 10 [.sl false (.strs x0), .str x1] = SeekPrefixes.f C k x0 x1
  SeekMaps : ∀ (k : Nat) (x0 : List ByteArray) (x1 : List ByteArray), C (k + 1) 11 [.sl false (.strs x0), .sl false (.strs x1)] = SeekMaps.f C k x0 x1
  SeekBounds : ∀ (k : Nat) (x0 : List ByteArray) (x1 : ByteArray), C (k + 1) 12 [.sl false (.strs x0), .str x1] = SeekBounds.f C k x0 x1
  SeekAll : ∀ (k : Nat) (x0 : List ByteArray), C (k + 1) 13 [.sl false (.strs x0)] = SeekAll.f C k x0
end Go.Proofs.Ytfkkigbbejhfbaa
