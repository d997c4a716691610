/- Step equations of some functions. -/
import Derived.Test.YtfkkigbbejhfbaaTab
namespace Go.Proofs.Ytfkkigbbejhfbaa
open Go Idl
set_option maxRecDepth 100000
set_option linter.unusedVariables false
def live26 : Live := fun q a b => match q, a, b with
  | 6, some 6, none => some [(0, false), (1, false), (6, false), (7, false), (18, false)]
  | 9, some 5, some 5 => some [(0, false), (1, false), (6, false), (7, false)]
  | _, _, _ => none
noncomputable def FrontBuild.f (C : Nat → CallF) (k : Nat) (x0 : List ByteArray) (x1 : Int) := ibody (EE.on sig26) (C k) k live26 sig26 Try.f26 [.sl false (.strs x0), .int .i64 x1]
noncomputable def FrontBuild.r0 (C : Nat → CallF) (k : Nat) (xs : List (List ByteArray)) (a0 : List ByteArray) (a1 : Int) (a2 : List ByteArray) (a3 : Int) (a4 : List Int) (a5 : List Int) := cutR (EE.on sig26) (C k) k live26 (some 6) [1, 1, 1, 1, 0, 1, 4] [] [(0, false), (1, false), (6, false), (7, false), (18, false)] 19 0 (bodyOf Try.f26) (kfin (EE.on sig26) sig26 Try.f26) (xs.map fun c => .sl false (.strs c)) (mkSt 47 [(0, .sl false (.strs a0)), (1, .int .i64 a1), (6, .pr 0 0), (7, .pr 1 0), (18, .fn 96 [.pv [.sl false (.strs a2)] 0, .pv [.int .i64 a3] 0])] [.pt [.rs 2], .pt [.rs 3], .sl true (.ints .i64 a4), .sl true (.ints .u8 a5)] [0, 1])
noncomputable def FrontBuild.e0 (C : Nat → CallF) (k : Nat) (a0 : List ByteArray) (a1 : Int) (a2 : List Int) (a3 : List Int) := cutE (EE.on sig26) (C k) k live26 (some 10) [1, 1, 1, 1, 1] [] (bodyOf Try.f26) (kfin (EE.on sig26) sig26 Try.f26) (mkSt 47 [(0, .sl false (.strs a0)), (1, .int .i64 a1), (6, .pr 0 0), (7, .pr 1 0)] [.pt [.rs 2], .pt [.rs 3], .sl true (.ints .i64 a2), .sl true (.ints .u8 a3)] [])
theorem FrontBuild.f_eq (C : Nat → CallF) (k : Nat) (x0 : List ByteArray) (x1 : Int) : FrontBuild.f C k x0 x1 =
  FrontRight.s (C k) x0 x1 (fun b1 =>
    cond (!b1)
      (some (.tup [.sl true (.ints .u8 ([] : List Int)), .int .i64 1], []))
      (ChunkS.q (C k) x0 x1 (fun l2 n3 =>
        cond (decide (0 < n3 ∧ n3 ≤ (bound : Int) ∧ l2.length ≤ bound))
          (FrontBuild.r0 C k (chunks n3.toNat l2) x0 x1 l2 n3 ([] : List Int) ([] : List Int))
          (none)))) := by kernel_rfl
theorem FrontBuild.r0_nil (C : Nat → CallF) (k : Nat) (a0 : List ByteArray) (a1 : Int) (a2 : List ByteArray) (a3 : Int) (a4 : List Int) (a5 : List Int) : FrontBuild.r0 C k [] a0 a1 a2 a3 a4 a5 =
  FrontBuild.e0 C k a0 a1 a4 a5 := (stop_eq (some 6) _ _ _).trans (by kernel_rfl)
theorem FrontBuild.r0_cons (C : Nat → CallF) (k : Nat) (x : List ByteArray) (xs : List (List ByteArray)) (a0 : List ByteArray) (a1 : Int) (a2 : List ByteArray) (a3 : Int) (a4 : List Int) (a5 : List Int) : FrontBuild.r0 C k (x :: xs) a0 a1 a2 a3 a4 a5 =
  Entries.q (C k) x (fun l4 =>
    if a4.length + [(l4.length : Int)].length ≤ bound ∧ 1 = 1 then
      if a5.length + l4.length ≤ bound ∧ 1 = 1 then
        FrontBuild.r0 C k xs a0 a1 a2 a3 (a4 ++ [(l4.length : Int)]) (a5 ++ l4)
      else none
    else none) := (stop_eq (some 6) _ _ _).trans (by kernel_rfl)
theorem FrontBuild.e0_eq (C : Nat → CallF) (k : Nat) (a0 : List ByteArray) (a1 : Int) (a2 : List Int) (a3 : List Int) : FrontBuild.e0 C k a0 a1 a2 a3 =
  PackWrite.q (C k) a2 (fun l5 n6 =>
    cond (n6 != 0)
      (some (.tup [.sl true (.ints .u8 ([] : List Int)), .int .i64 n6], []))
      (CurPut.q (C k) (a0.length : Int) (fun l7 =>
        CurPut.q (C k) a1 (fun l8 =>
          Concat.q (C k) [.sl false (.ints .u8 l7), .sl false (.ints .u8 l8), .sl false (.ints .u8 l5), .sl false (.ints .u8 a3)] (fun l9 =>
            some (.tup [.sl true (.ints .u8 l9), .int .i64 0], [])))))) := (stop_eq (some 10) _ _ _).trans (by kernel_rfl)
def live70 : Live := fun q a b => match q, a, b with
  | 9, some 1, some 2 => some [(2, false), (3, false)]
  | _, _, _ => none
noncomputable def ChunkS.f (C : Nat → CallF) (k : Nat) (x0 : List ByteArray) (x1 : Int) := ibody (EE.on sig70) (C k) k live70 sig70 Try.f70 [.sl false (.strs x0), .int .i64 x1]
noncomputable def ChunkS.e0 (C : Nat → CallF) (k : Nat) (a0 : List ByteArray) (a1 : Int) := cutE (EE.on sig70) (C k) k live70 (some 3) [1, 1] [] (bodyOf Try.f70) (kfin (EE.on sig70) sig70 Try.f70) (mkSt 9 [(2, .pr 0 0), (3, .pr 1 0)] [.pt [.sl false (.strs a0)], .pt [.int .i64 a1]] [])
theorem ChunkS.f_eq (C : Nat → CallF) (k : Nat) (x0 : List ByteArray) (x1 : Int) : ChunkS.f C k x0 x1 =
  cond (decide (x1 < 1))
    (none)
    (ChunkS.e0 C k x0 x1) := by kernel_rfl
theorem ChunkS.e0_eq (C : Nat → CallF) (k : Nat) (a0 : List ByteArray) (a1 : Int) : ChunkS.e0 C k a0 a1 =
  some (.fn 96 [.pv [.sl false (.strs a0)] 0, .pv [.int .i64 a1] 0], []) := (stop_eq (some 3) _ _ _).trans (by kernel_rfl)
/-- the table's equations for these functions -/
structure EqFnB (C : Nat → CallF) : Prop where
  FrontBuild : ∀ (k : Nat) (x0 : List ByteArray) (x1 : Int), C (k + 1) 26 [.sl false (.strs x0), .int .i64 x1] = FrontBuild.f C k x0 x1
  ChunkS : ∀ (k : Nat) (x0 : List ByteArray) (x1 : Int), C (k + 1) 70 [.sl false (.strs x0), .int .i64 x1] = ChunkS.f C k x0 x1
end Go.Proofs.Ytfkkigbbejhfbaa
