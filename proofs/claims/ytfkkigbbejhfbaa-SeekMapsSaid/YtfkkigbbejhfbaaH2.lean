/- slices.Grow of nil: an empty slice of the caller's own. -/
import Derived.Test.YtfkkigbbejhfbaaH1
import Derived.Lib.AppendZerosOnto
namespace Go.Proofs.Ytfkkigbbejhfbaa
open Go Go.Proofs Go.Shelf Go.RowKit Go.Lib Idl
set_option linter.unusedVariables false
set_option linter.unusedSimpArgs false

set_option maxHeartbeats 2000000 in
set_option maxRecDepth 100000 in
theorem grow94_none (w : World) : Calls Try.prog 94 #[.slice none 0 0, .int .i64 ((0 : Nat) : Int)] w fun e w' => e = .returned (.slice none 0 0) ∧ w' = w := by
  have h2 : wrap64 (((0 : Nat) : Int) - ((0 : Nat) : Int)) = 0 := by unfold wrap64; omega
  go_enter Try.func94, Try.ntmps94
  go_wp2
  go_ret
  exact ⟨rfl, rfl⟩
set_option maxHeartbeats 4000000 in
set_option maxRecDepth 100000 in
theorem grow94 (n : Nat) (hn : 0 < n) (hb : n ≤ 100000000000) (w : World) : Calls Try.prog 94 #[.slice none 0 0, .int .i64 (n : Int)] w fun e w' =>
    ∃ G, e = .returned (.slice (some ⟨w.heap.size, 0, none⟩) 0 G) ∧ G ≤ maxLen ∧ n ≤ G ∧ w' = w.drew.alloc (.cells ((#[] : Array Value) ++ Builtin.zeroCells (Value.int .u8 0).cells n ++ Builtin.zeroCells (Value.int .u8 0).cells (G - n)) 5) := by
  obtain ⟨i0, hi, hz0, hz1, hz2⟩ := info_parts info5
  have u27 : ∀ w, Sem.run Try.prog (underlying 27) w = .ok (TypeDesc.slice 5) w := run_underlying Try.underlying27
  have h1 : ¬ ((n : Int) < 0) := by omega
  have h4 : (n : Int) > 0 := by omega
  have h3 : wrap64 ((n : Int) - 0) = (n : Int) := by unfold wrap64; omega
  have z5 : ∀ w, (Go.sizeOf 5).run Try.prog w = .ok 1 w := fun w => by simp [Go.sizeOf, typeInfo, hi, hz1]
  have hold : (Builtin.firstCells i0.size 0 (.slice none 0 0)).run Try.prog w.drew = .ok (#[] : Array Value) w.drew := run_firstCells_none w.drew i0.size 0 0 0
  have hGm : grownCap w (0 + n) 0 5 ≤ maxLen := grownCap_le_maxLen w (0 + n) 0 5 (by unfold maxLen; omega)
  have hrz : ∀ ty, (Builtin.append_ #[27, 3] ty #[.slice none 0 0, .int .i64 (n : Int)]).run Try.prog w =
      .ok (.slice (some ⟨w.heap.size, 0, none⟩) n (grownCap w (0 + n) 0 5)) (w.drew.alloc (.cells ((#[] : Array Value) ++ Builtin.zeroCells (Value.int .u8 0).cells n ++ Builtin.zeroCells (Value.int .u8 0).cells (grownCap w (0 + n) 0 5 - n)) 5)) := fun ty => by
    have h := Lib.run_append_grow_zeros (P := Try.prog) w 27 3 ty 5 i0 (.int .u8 0) .i64 .i64 Try.underlying27 Try.underlying3 hi hz0 none 0 0 [] hold n hn (by omega) (by omega) (by omega)
      (by rw [hz2]; omega) (by rw [hz2]; exact growslice_fits (by omega) (by omega))
    rw [Nat.zero_add] at h ⊢
    exact h
  have hGn : 0 + n ≤ grownCap w (0 + n) 0 5 := grownCap_ge w _ _ _
  rw [Nat.zero_add] at hGn hrz hGm
  obtain ⟨G, hG⟩ : ∃ G, G = grownCap w n 0 5 := ⟨_, rfl⟩
  rw [← hG] at hrz hGn hGm
  have hG63 : G ≤ 9223372036854775807 := by unfold maxLen at hGm; omega
  clear hold hG
  have HGm := Lib.hid hGm
  have HGn := Lib.hid hGn
  clear hGm hGn
  go_enter Try.func94, Try.ntmps94
  go_wp2_with (at_builtin; refine Lib.wpList_append_run _ rfl _ _ _ _ rfl _ _ rfl rfl _ _ (hrz _) ?_)
  all_goals
    go_ret
    exact ⟨G, rfl, HGm.out, HGn.out, rfl⟩
theorem growB_ok (n : Int) (h0 : 0 ≤ n) (hn : n ≤ bound) : CallOK Try.prog 94 [.nils, .int .i64 n] (.sl true (.ints .u8 [])) [] := by
  unfold bound at hn
  obtain ⟨n, rfl⟩ : ∃ m : Nat, n = (m : Int) := ⟨n.toNat, by omega⟩
  intro S w vs fps hlt ho hnd hf
  obtain ⟨h1, h2, h3⟩ := ho
  match vs, fps, h1, h2 with
  | [v, u], [f, g], _, _ =>
    obtain ⟨a1, a2⟩ := h3 0 v f _ rfl rfl rfl
    obtain ⟨b1, b2⟩ := h3 1 u g _ rfl rfl rfl
    have hv : v = .slice none 0 0 := by cases (show RepL S w v .nils from a1); rfl
    have hu : u = .int .i64 (n : Int) := RepL.ground_int b1
    subst hv hu a2 b2
    have row : ∀ v' w', Below w.heap.size w w' → w'.ownsRow w.heap.size 5 1 v' 0 [] → ∃ rfp, CallPost S S w w' [] v' (.sl true (.ints .u8 [])) rfp [] [] [] := by
      intro v' w' hb hown
      exact own_post (e := 5) (a := .ints .u8 []) (xs := []) hlt hb (by decide) hown (fun i u j c hi => by simp [Arr.toL] at hi) (fun i u hi => by simp [Arr.toL] at hi)
    by_cases hz : n = 0
    · subst hz
      refine (grow94_none w).mono ?_
      rintro e' w' ⟨rfl, rfl⟩
      obtain ⟨rfp, hp⟩ := row _ w' (Below.refl _ _) ⟨by simp, .inl ⟨rfl, rfl⟩⟩
      exact ⟨_, S, rfp, [], rfl, hp⟩
    · refine (grow94 n (by omega) (by omega) w).mono ?_
      rintro e' w' ⟨G, rfl, hG, hGn, rfl⟩
      have hsz : w.drew.heap.size = w.heap.size := rfl
      have hb : Below w.heap.size w (w.drew.alloc (.cells ((#[] : Array Value) ++ Builtin.zeroCells (Value.int .u8 0).cells n ++ Builtin.zeroCells (Value.int .u8 0).cells (G - n)) 5)) := ((Below.refl _ w).drew).alloc (Nat.le_refl _) _
      obtain ⟨rfp, hp⟩ := row (.slice (some ⟨w.heap.size, 0, none⟩) 0 G) _ hb (World.ownsRow_made (base := w.heap.size) (e := 5) (size := 1) w.drew _ G (Nat.le_refl _) hG (by simp [size_zeroCells, Value.cells]; omega))
      exact ⟨_, S, rfp, [], rfl, hp⟩
end Go.Proofs.Ytfkkigbbejhfbaa
