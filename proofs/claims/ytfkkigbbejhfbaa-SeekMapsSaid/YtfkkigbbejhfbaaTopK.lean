/- The table of calls, with what was proved by hand; the equations hold of it. -/
import Derived.Test.YtfkkigbbejhfbaaSpP2
import Derived.Test.YtfkkigbbejhfbaaH2
import Derived.Test.YtfkkigbbejhfbaaH3
import Derived.Test.YtfkkigbbejhfbaaH4
import Derived.Test.YtfkkigbbejhfbaaLays
import Derived.Test.YtfkkigbbejhfbaaFnP
import Derived.Test.YtfkkigbbejhfbaaFnS
import Derived.Test.YtfkkigbbejhfbaaFnR
import Derived.Test.YtfkkigbbejhfbaaFnK
import Derived.Test.YtfkkigbbejhfbaaFnL
namespace Go.Proofs.Ytfkkigbbejhfbaa
open Go Idl
set_option maxRecDepth 100000
set_option linter.unusedVariables false
noncomputable def lives : List (Nat × Live) := [(15, live15), (16, live16), (17, live17), (18, live18), (19, live19), (20, live20), (21, live21), (22, live22), (23, live23), (31, live31), (34, live34), (55, live55), (56, live56), (57, live57), (58, live58), (59, live59), (60, live60), (61, live61), (63, live63), (64, live64), (65, live65), (66, live66), (67, live67), (93, live93), (95, live95), (97, live97), (98, live98), (101, live101), (69, live69), (71, live71), (75, live75), (30, live30), (32, live32), (33, live33), (37, live37), (25, live25), (68, live68), (27, live27), (28, live28), (29, live29), (35, live35), (36, live36), (40, live40), (72, live72), (73, live73), (74, live74), (99, live99), (100, live100), (113, live113), (38, live38), (41, live41), (42, live42), (43, live43), (44, live44), (45, live45), (46, live46), (47, live47), (77, live77), (78, live78), (79, live79), (80, live80), (81, live81), (39, live39), (9, live9), (10, live10), (11, live11), (12, live12), (13, live13)]
noncomputable def liveT (f : Nat) : Live := match find f lives with | some l => l | none => fun _ _ _ => none
def handB (args : List V) : Option (V × List V) := match args with
  | [.sl false (.ints .u8 l)] => if l.length ≤ bound then some (.sl true (.ints .u8 l), []) else none
  | _ => none
def handS (args : List V) : Option (V × List V) := match args with
  | [.sl false (.strs l)] => if l.length ≤ bound then some (.sl true (.strs l), []) else none
  | _ => none
def handG (args : List V) : Option (V × List V) := match args with
  | [.nils, .int .i64 n] => if 0 ≤ n ∧ n ≤ bound then some (.sl true (.ints .u8 []), []) else none
  | _ => none
def hand : Hand := fun f => find f [(62, handB), (76, handS), (94, handG)]
noncomputable def CC : Nat → CallF := callT EE liveT hand
theorem fns_ok : ∀ p, p ∈ fns → Try.prog.funcs[p.1]? = some p.2 := List.forall_mem_cons.2 ⟨Try.func3, List.forall_mem_cons.2 ⟨Try.func4, List.forall_mem_cons.2 ⟨Try.func5, List.forall_mem_cons.2 ⟨Try.func6, List.forall_mem_cons.2 ⟨Try.func7, List.forall_mem_cons.2 ⟨Try.func8, List.forall_mem_cons.2 ⟨Try.func9, List.forall_mem_cons.2 ⟨Try.func10, List.forall_mem_cons.2 ⟨Try.func11, List.forall_mem_cons.2 ⟨Try.func12, List.forall_mem_cons.2 ⟨Try.func13, List.forall_mem_cons.2 ⟨Try.func15, List.forall_mem_cons.2 ⟨Try.func16, List.forall_mem_cons.2 ⟨Try.func17, List.forall_mem_cons.2 ⟨Try.func18, List.forall_mem_cons.2 ⟨Try.func19, List.forall_mem_cons.2 ⟨Try.func20, List.forall_mem_cons.2 ⟨Try.func21, List.forall_mem_cons.2 ⟨Try.func22, List.forall_mem_cons.2 ⟨Try.func23, List.forall_mem_cons.2 ⟨Try.func24, List.forall_mem_cons.2 ⟨Try.func25, List.forall_mem_cons.2 ⟨Try.func26, List.forall_mem_cons.2 ⟨Try.func27, List.forall_mem_cons.2 ⟨Try.func28, List.forall_mem_cons.2 ⟨Try.func29, List.forall_mem_cons.2 ⟨Try.func30, List.forall_mem_cons.2 ⟨Try.func31, List.forall_mem_cons.2 ⟨Try.func32, List.forall_mem_cons.2 ⟨Try.func33, List.forall_mem_cons.2 ⟨Try.func34, List.forall_mem_cons.2 ⟨Try.func35, List.forall_mem_cons.2 ⟨Try.func36, List.forall_mem_cons.2 ⟨Try.func37, List.forall_mem_cons.2 ⟨Try.func38, List.forall_mem_cons.2 ⟨Try.func39, List.forall_mem_cons.2 ⟨Try.func40, List.forall_mem_cons.2 ⟨Try.func41, List.forall_mem_cons.2 ⟨Try.func42, List.forall_mem_cons.2 ⟨Try.func43, List.forall_mem_cons.2 ⟨Try.func44, List.forall_mem_cons.2 ⟨Try.func45, List.forall_mem_cons.2 ⟨Try.func46, List.forall_mem_cons.2 ⟨Try.func47, List.forall_mem_cons.2 ⟨Try.func55, List.forall_mem_cons.2 ⟨Try.func56, List.forall_mem_cons.2 ⟨Try.func57, List.forall_mem_cons.2 ⟨Try.func58, List.forall_mem_cons.2 ⟨Try.func59, List.forall_mem_cons.2 ⟨Try.func60, List.forall_mem_cons.2 ⟨Try.func61, List.forall_mem_cons.2 ⟨Try.func62, List.forall_mem_cons.2 ⟨Try.func63, List.forall_mem_cons.2 ⟨Try.func64, List.forall_mem_cons.2 ⟨Try.func65, List.forall_mem_cons.2 ⟨Try.func66, List.forall_mem_cons.2 ⟨Try.func67, List.forall_mem_cons.2 ⟨Try.func68, List.forall_mem_cons.2 ⟨Try.func69, List.forall_mem_cons.2 ⟨Try.func70, List.forall_mem_cons.2 ⟨Try.func71, List.forall_mem_cons.2 ⟨Try.func72, List.forall_mem_cons.2 ⟨Try.func73, List.forall_mem_cons.2 ⟨Try.func74, List.forall_mem_cons.2 ⟨Try.func75, List.forall_mem_cons.2 ⟨Try.func76, List.forall_mem_cons.2 ⟨Try.func77, List.forall_mem_cons.2 ⟨Try.func78, List.forall_mem_cons.2 ⟨Try.func79, List.forall_mem_cons.2 ⟨Try.func80, List.forall_mem_cons.2 ⟨Try.func81, List.forall_mem_cons.2 ⟨Try.func82, List.forall_mem_cons.2 ⟨Try.func83, List.forall_mem_cons.2 ⟨Try.func93, List.forall_mem_cons.2 ⟨Try.func94, List.forall_mem_cons.2 ⟨Try.func95, List.forall_mem_cons.2 ⟨Try.func97, List.forall_mem_cons.2 ⟨Try.func98, List.forall_mem_cons.2 ⟨Try.func99, List.forall_mem_cons.2 ⟨Try.func100, List.forall_mem_cons.2 ⟨Try.func101, List.forall_mem_cons.2 ⟨Try.func103, List.forall_mem_cons.2 ⟨Try.func113, List.forall_mem_cons.2 ⟨Try.func123, (fun p h => by cases h)⟩⟩⟩⟩⟩⟩⟩⟩⟩⟩⟩⟩⟩⟩⟩⟩⟩⟩⟩⟩⟩⟩⟩⟩⟩⟩⟩⟩⟩⟩⟩⟩⟩⟩⟩⟩⟩⟩⟩⟩⟩⟩⟩⟩⟩⟩⟩⟩⟩⟩⟩⟩⟩⟩⟩⟩⟩⟩⟩⟩⟩⟩⟩⟩⟩⟩⟩⟩⟩⟩⟩⟩⟩⟩⟩⟩⟩⟩⟩⟩⟩⟩⟩⟩
theorem inps_ok : ∀ f ret ok g, inps f = some (ret, ok, g) → InpOK Try.prog f ret ok g := by
  intro f ret ok g h
  unfold inps at h
  cases e82 : Nat.beq f 82 with
  | true =>
    rw [e82, cond_true] at h
    obtain rfl := Nat.eq_of_beq_eq_true e82
    cases h
    exact sort_inp lays190
  | false =>
  rw [e82, cond_false] at h
  cases e83 : Nat.beq f 83 with
  | true =>
    rw [e83, cond_true] at h
    obtain rfl := Nat.eq_of_beq_eq_true e83
    cases h
    exact compact_inp lays194
  | false =>
  rw [e83, cond_false] at h
  cases h
theorem EE_ok : EnvOK Try.prog EE := env_ok tys_ok (by kernel_rfl) fns_ok inps_ok
theorem hand_ok : ∀ f h args res outs, hand f = some h → h args = some (res, outs) → CallOK Try.prog f args res outs := by
  intro f h args res outs hf hh
  have : ∀ l : List (Nat × (List V → Option (V × List V))), (∀ p, p ∈ l → ∀ args res outs, p.2 args = some (res, outs) → CallOK Try.prog p.1 args res outs) → find f l = some h → CallOK Try.prog f args res outs := by
    intro l hl hf
    exact find_all (Q := fun f h => ∀ args res outs, h args = some (res, outs) → CallOK Try.prog f args res outs) hl hf args res outs hh
  refine this _ ?_ hf
  intro p hp args res outs hr
  simp only [List.mem_cons, List.not_mem_nil, or_false] at hp
  rcases hp with rfl | rfl | rfl
  · simp only [handB] at hr
    split at hr
    · split at hr
      · rename_i l hl; cases hr; exact cloneB_ok l hl
      · cases hr
    · cases hr
  · simp only [handS] at hr
    split at hr
    · split at hr
      · rename_i l hl; cases hr; exact cloneS_ok l (by unfold bound at hl; omega)
      · cases hr
    · cases hr
  · simp only [handG] at hr
    split at hr
    · split at hr
      · rename_i n hl; cases hr; exact growB_ok n hl.1 hl.2
      · cases hr
    · cases hr
theorem seqs_ok : SeqOK Try.prog EE := by
  intro id cap xs h S w vals hl hr hlt
  have h : seqs id cap = some (true, xs) := h
  unfold seqs at h
  cases e : Nat.beq id 96 with
  | true =>
    rw [e, cond_true] at h
    obtain rfl := Nat.eq_of_beq_eq_true e
    exact seq96_ok cap xs h S w vals hl hr
  | false => rw [e, cond_false] at h; cases h
theorem CC_ok (k : Nat) : CallsOK Try.prog (CC k) := callT_ok (by kernel_rfl) EE_ok seqs_ok hand_ok k
theorem eqFnP : EqFnP CC := ⟨fun k => by kernel_rfl, fun k x0 => by kernel_rfl, fun k x0 x1 => by kernel_rfl, fun k x0 => by kernel_rfl, fun k x0 x1 x2 => by kernel_rfl, fun k x0 => by kernel_rfl, fun k x0 x1 => by kernel_rfl, fun k x0 x1 x2 x3 => by kernel_rfl, fun k x0 x1 x2 => by kernel_rfl, fun k x0 x1 x2 => by kernel_rfl, fun k x0 x1 x2 => by kernel_rfl, fun k x0 => by kernel_rfl, fun k x0 => by kernel_rfl, fun k x0 x1 => by kernel_rfl, fun k x0 => by kernel_rfl, fun k x0 => by kernel_rfl, fun k x0 => by kernel_rfl, fun k x0 => by kernel_rfl, fun k x0 x1 x2 x3 => by kernel_rfl, fun k x0 x1 x2 => by kernel_rfl, fun k x0 x1 x2 x3 => by kernel_rfl, fun k x0 x1 x2 x3 => by kernel_rfl, fun k x0 x1 => by kernel_rfl, fun k x0 => by kernel_rfl, fun k x0 x1 x2 => by kernel_rfl⟩
theorem eqFnS : EqFnS CC := ⟨fun k x0 => by kernel_rfl, fun k x0 x1 => by kernel_rfl, fun k x0 x1 x2 => by kernel_rfl, fun k x0 x1 => by kernel_rfl, fun k x0 => by kernel_rfl, fun k x0 x1 x2 x3 x4 => by kernel_rfl, fun k x0 x1 x2 => by kernel_rfl, fun k x0 => by kernel_rfl, fun k x0 => by kernel_rfl, fun k x0 x1 => by kernel_rfl⟩
theorem eqFnR : EqFnR CC := ⟨fun k x0 => by kernel_rfl, fun k x0 => by kernel_rfl, fun k x0 x1 => by kernel_rfl, fun k x0 x1 => by kernel_rfl, fun k x0 x1 => by kernel_rfl, fun k x0 => by kernel_rfl, fun k x0 x1 => by kernel_rfl, fun k x0 x1 => by kernel_rfl, fun k x0 => by kernel_rfl, fun k x0 => by kernel_rfl, fun k x0 => by kernel_rfl, fun k x0 x1 => by kernel_rfl, fun k x0 => by kernel_rfl, fun k x0 => by kernel_rfl⟩
theorem eqFnK : EqFnK CC := ⟨fun k x0 => by kernel_rfl, fun k x0 x1 => by kernel_rfl, fun k x0 x1 => by kernel_rfl, fun k x0 x1 => by kernel_rfl, fun k x0 x1 => by kernel_rfl, fun k x0 x1 => by kernel_rfl, fun k x0 x1 => by kernel_rfl, fun k x0 x1 => by kernel_rfl, fun k x0 x1 x2 => by kernel_rfl, fun k x0 x1 x2 => by kernel_rfl, fun k x0 x1 x2 x3 => by kernel_rfl, fun k x0 x1 x2 => by kernel_rfl, fun k x0 x1 x2 => by kernel_rfl, fun k x0 x1 x2 x3 => by kernel_rfl, fun k x0 x1 => by kernel_rfl⟩
theorem eqFnL : EqFnL CC := ⟨fun k => by kernel_rfl, fun k x0 x1 => by kernel_rfl, fun k x0 x1 => by kernel_rfl, fun k x0 x1 => by kernel_rfl, fun k x0 x1 => by kernel_rfl, fun k x0 => by kernel_rfl⟩
theorem eqH : EqH CC := by
  refine ⟨fun k l hl => ?_, fun k l hl => ?_, fun k n h0 hn => ?_⟩
  · have e : CC (k + 1) 62 [.sl false (.ints .u8 l)] = if l.length ≤ bound then some (.sl true (.ints .u8 l), []) else none := by kernel_rfl
    rw [e, if_pos hl]
  · have e : CC (k + 1) 76 [.sl false (.strs l)] = if l.length ≤ bound then some (.sl true (.strs l), []) else none := by kernel_rfl
    rw [e, if_pos hl]
  · have e : CC (k + 1) 94 [.nils, .int .i64 n] = if 0 ≤ n ∧ n ≤ bound then some (.sl true (.ints .u8 []), []) else none := by kernel_rfl
    rw [e, if_pos ⟨h0, hn⟩]
end Go.Proofs.Ytfkkigbbejhfbaa
