/- slices.Clone of bytes and of strings, slices.Grow of nil: what the tables of calls take of them, proved by walking their code. -/
import Derived.Test.YtfkkigbbejhfbaaTable
import Derived.Test.YtfkkigbbejhfbaaProg
import Derived.Shelf.RegionOpenPlain
import Derived.WalkKit
import Derived.Lib.Walk
import Derived.Lib.SliceRun
import Derived.Lib.Hide
import Derived.KernelRfl
namespace Go.Proofs.Ytfkkigbbejhfbaa
open Go Go.Proofs Go.Shelf Go.RowKit Go.Lib Idl
set_option linter.unusedVariables false
set_option linter.unusedSimpArgs false

theorem info5 : (Try.prog.info? 5).map (fun i => (i.zero, i.size, i.bytes)) = some (some (.int .u8 0), 1, 1) := by kernel_rfl
theorem info9 : (Try.prog.info? 9).map (fun i => (i.zero, i.size, i.bytes)) = some (some (.string ByteArray.empty), 1, 16) := by kernel_rfl
set_option maxHeartbeats 2000000 in
set_option maxRecDepth 100000 in
theorem clone62 (ad : Addr) (n c : Nat) (news : List Value) (w : World) (hl : news.length = n * 1) (hn : n ≤ maxLen) (hbig : n * 1 ≤ 140737488355328) (hc : ∀ j u, news[j]? = some u → w.cell? (ad.add j) = some u) (h1 : ∀ u ∈ news, u.oneCell' = true) :
    Calls Try.prog 62 #[.slice (some ad) n c] w fun e w' => ∃ v', e = .returned v' ∧ w'.ownsRow w.heap.size 5 1 v' n news ∧ Below w.heap.size w w' := by
  obtain ⟨i0, hi, hz0, hz1, hz2⟩ := info_parts info5
  have q27 : ∀ (w : World) (a : Option Addr) (n c n' c' : Nat), (binOp .eql 27 (.slice a n c) (.slice none n' c')).run Try.prog w = .ok (.bool a.isNone) w := fun w a n c n' c' => Lib.run_eql_slice_nil w _ _ a n c n' c' Try.underlying27
  have u27 : ∀ w, Sem.run Try.prog (underlying 27) w = .ok (TypeDesc.slice 5) w := run_underlying Try.underlying27
  have A : Hid (∀ j u, news[j]? = some u → w.cell? (ad.add j) = some u) := Lib.hid hc
  clear hc
  go_enter Try.func62, Try.ntmps62
  go_wp2_with (at_builtin; refine wpList_append_own _ rfl _ _ 27 rfl w.heap.size 5 i0 (.int .u8 0) 1 1 Try.underlying27 hi hz0 hz1 hz2 rfl (by decide) _ _ _ rfl (World.ownsRow_made w #[] 0 (Nat.le_refl _) (Nat.zero_le _) (by simp)) ad n c news rfl ?qc1 ?qc2 ?qc3 ?qc4 ?qc5 ?qc6 ?_)
  case qc1 => exact hl
  case qc2 =>
    intro j u hj
    exact Lib.cell?_alloc_some _ (A.out j u hj)
  case qc3 => exact h1
  case qc4 => rw [Nat.zero_add]; exact hn
  case qc5 => rw [Nat.zero_add]; exact hbig
  case qc6 => simp
  intro v' w1 hown hgrow hnil
  go_wp2
  go_ret
  refine ⟨v', rfl, by simpa using hown, ?_⟩
  exact ((Below.refl _ w).alloc (Nat.le_refl _) _).grown hgrow (by simp) (by intro k hk; simp [Value.ownBlock] at hk; omega)
set_option maxHeartbeats 2000000 in
set_option maxRecDepth 100000 in
theorem clone76 (ad : Addr) (n c : Nat) (news : List Value) (w : World) (hl : news.length = n * 1) (hn : n ≤ maxLen) (hbig : n * 16 ≤ 140737488355328) (hc : ∀ j u, news[j]? = some u → w.cell? (ad.add j) = some u) (h1 : ∀ u ∈ news, u.oneCell' = true) :
    Calls Try.prog 76 #[.slice (some ad) n c] w fun e w' => ∃ v', e = .returned v' ∧ w'.ownsRow w.heap.size 9 1 v' n news ∧ Below w.heap.size w w' := by
  obtain ⟨i0, hi, hz0, hz1, hz2⟩ := info_parts info9
  have q39 : ∀ (w : World) (a : Option Addr) (n c n' c' : Nat), (binOp .eql 39 (.slice a n c) (.slice none n' c')).run Try.prog w = .ok (.bool a.isNone) w := fun w a n c n' c' => Lib.run_eql_slice_nil w _ _ a n c n' c' Try.underlying39
  have u39 : ∀ w, Sem.run Try.prog (underlying 39) w = .ok (TypeDesc.slice 9) w := run_underlying Try.underlying39
  have A : Hid (∀ j u, news[j]? = some u → w.cell? (ad.add j) = some u) := Lib.hid hc
  clear hc
  go_enter Try.func76, Try.ntmps76
  go_wp2_with (at_builtin; refine wpList_append_own _ rfl _ _ 39 rfl w.heap.size 9 i0 (.string ByteArray.empty) 1 16 Try.underlying39 hi hz0 hz1 hz2 rfl (by decide) _ _ _ rfl (World.ownsRow_made w #[] 0 (Nat.le_refl _) (Nat.zero_le _) (by simp)) ad n c news rfl ?qc1 ?qc2 ?qc3 ?qc4 ?qc5 ?qc6 ?_)
  case qc1 => exact hl
  case qc2 =>
    intro j u hj
    exact Lib.cell?_alloc_some _ (A.out j u hj)
  case qc3 => exact h1
  case qc4 => rw [Nat.zero_add]; exact hn
  case qc5 => rw [Nat.zero_add]; exact hbig
  case qc6 => simp
  intro v' w1 hown hgrow hnil
  go_wp2
  go_ret
  refine ⟨v', rfl, by simpa using hown, ?_⟩
  exact ((Below.refl _ w).alloc (Nat.le_refl _) _).grown hgrow (by simp) (by intro k hk; simp [Value.ownBlock] at hk; omega)
set_option maxHeartbeats 1000000 in
theorem clone62_nil (n c : Nat) (w : World) : Calls Try.prog 62 #[.slice none n c] w fun e w' => e = .returned (.slice none 0 0) ∧ w' = w := by
  have q27 : ∀ (w : World) (a : Option Addr) (n c n' c' : Nat), (binOp .eql 27 (.slice a n c) (.slice none n' c')).run Try.prog w = .ok (.bool a.isNone) w := fun w a n c n' c' => Lib.run_eql_slice_nil w _ _ a n c n' c' Try.underlying27
  go_enter Try.func62, Try.ntmps62
  go_wp2
  go_ret
  exact ⟨rfl, rfl⟩
set_option maxHeartbeats 1000000 in
theorem clone76_nil (n c : Nat) (w : World) : Calls Try.prog 76 #[.slice none n c] w fun e w' => e = .returned (.slice none 0 0) ∧ w' = w := by
  have q39 : ∀ (w : World) (a : Option Addr) (n c n' c' : Nat), (binOp .eql 39 (.slice a n c) (.slice none n' c')).run Try.prog w = .ok (.bool a.isNone) w := fun w a n c n' c' => Lib.run_eql_slice_nil w _ _ a n c n' c' Try.underlying39
  go_enter Try.func76, Try.ntmps76
  go_wp2
  go_ret
  exact ⟨rfl, rfl⟩

/-- a new row is an owned slice -/
theorem own_post {S : Nat → Prop} {w w' : World} {v : Value} {e : Nat} {a : Arr V} {xs : List Value} (hlt : ∀ b, S b → b < w.heap.size) (hb : Below w.heap.size w w') (hpos : 0 < a.esz)
    (hown : w'.ownsRow w.heap.size e a.esz v a.len xs) (hr : ∀ (i : Nat) (u : V) (j : Nat) (c : V), a.toL[i]? = some u → u.cells[j]? = some c → ∃ x, xs[i * a.esz + j]? = some x ∧ RepL S w' x c)
    (hz : ∀ (i : Nat) (u : V), a.toL[i]? = some u → u.cells.length = a.esz) : ∃ rfp, CallPost S S w w' [] v (.sl true a) rfp [] [] [] := by
  have hO : OwnS S w' v a := by
    refine ⟨hpos, ⟨e, xs, ⟨hown.1, ?_⟩, hr⟩, hz⟩
    rcases hown.2 with h | ⟨g, cap, cur, h1, h2, h3⟩
    · exact .inl h
    · exact .inr ⟨g, cap, cur, h1, Nat.zero_le _, h3⟩
  refine ⟨v.ownBlock.toList, fun _ h => h, fun b h => Nat.lt_of_lt_of_le (hlt b h) hb.size, fun _ h => .inl h, fun b h _ => hb.block b h, hb.size, ⟨hb.os, hb.tape, hb.output⟩, ⟨hO, rfl⟩, ⟨rfl, rfl, fun j x f c h => by simp at h⟩, ?_, fun b h => ?_⟩
  · cases v.ownBlock <;> simp
  · have hb2 : v.ownBlock = some b := by
      simp only [List.flatten_nil, List.append_nil, Option.mem_toList] at h; exact h
    rcases hown.2 with ⟨h1, _⟩ | ⟨g, cap, cur, h1, h2, h3, _⟩
    · rw [h1] at hb2; cases hb2
    · rw [h1] at hb2; cases hb2
      have : g < w'.heap.size := by
        rcases Nat.lt_or_ge g w'.heap.size with h | h
        · exact h
        · rw [Array.getElem?_eq_none h] at h3; cases h3
      exact ⟨this, fun hs => by have h5 : g < w.heap.size := hlt g hs; omega, .inl h2⟩
theorem one_arg {S : Nat → Prop} {w : World} {vs : List Value} {fps : List (List Nat)} {a : Arr V} (h : OwnVs S w vs fps [.sl false a]) : ∃ v, vs = [v] ∧ fps = [[]] ∧ RepL S w v (.sl false a) := by
  obtain ⟨h1, h2, h3⟩ := h
  match vs, fps, h1, h2 with
  | [v], [f], _, _ =>
    obtain ⟨h4, h5⟩ := h3 0 v f _ rfl rfl rfl
    exact ⟨v, rfl, by rw [h5], h4⟩
/-- a copy, of what is told by its values -/
theorem clone_ok {f e : Nat} {a : Arr V} (mk : V → Value) (hpos : a.esz = 1) (hcell : ∀ (i : Nat) (u : V), a.toL[i]? = some u → u.cells = [u])
    (hmk : ∀ (S : Nat → Prop) (w : World) (i : Nat) (u : V) (x : Value), a.toL[i]? = some u → RepL S w x u → x = mk u) (hmk2 : ∀ (S : Nat → Prop) (w : World) (i : Nat) (u : V), a.toL[i]? = some u → RepL S w (mk u) u)
    (hnil : ∀ (n c : Nat) (w : World), Calls Try.prog f #[.slice none n c] w fun e w' => e = .returned (.slice none 0 0) ∧ w' = w)
    (hsome : ∀ (ad : Addr) (c : Nat) (news : List Value) (w : World), news.length = a.len * 1 → (∀ j u, news[j]? = some u → w.cell? (ad.add j) = some u) → (∀ u ∈ news, u.oneCell' = true) →
      Calls Try.prog f #[.slice (some ad) a.len c] w fun e' w' => ∃ v', e' = .returned v' ∧ w'.ownsRow w.heap.size e 1 v' a.len news ∧ Below w.heap.size w w') :
    CallOK Try.prog f [.sl false a] (.sl true a) [] := by
  intro S w vs fps hlt ho hn hf
  obtain ⟨v, rfl, rfl, hv⟩ := one_arg ho
  have go : ∀ (ad : Addr) (c : Nat), (∀ (i : Nat) (u : V), a.toL[i]? = some u → ∃ x, w.cell? (ad.add i) = some x ∧ RepL S w x u) →
      Calls Try.prog f #[.slice (some ad) a.len c] w fun e w' => ∃ v S' rfp ofps, e = .returned v ∧ CallPost S S' w w' [] v (.sl true a) rfp [] [] ofps := by
    intro ad c hc
    refine (hsome ad c (a.toL.map mk) w (by simp [Arr.length_toL]) (fun j u hj => ?_) (fun u hu => ?_)).mono ?_
    · rw [List.getElem?_map, Option.map_eq_some_iff] at hj
      obtain ⟨y, hy, rfl⟩ := hj
      obtain ⟨x, hx, hr⟩ := hc j y hy
      rw [hx, hmk S w j y x hy hr]
    · obtain ⟨y, hy, rfl⟩ := List.mem_map.1 hu
      obtain ⟨i, hi, e⟩ := List.getElem_of_mem hy
      have : a.toL[i]? = some y := by rw [← e]; exact List.getElem?_eq_getElem hi
      exact (hmk2 S w i y this).one
    · rintro e' w' ⟨v', rfl, hown, hb⟩
      have hown : w'.ownsRow w.heap.size e a.esz v' a.len (a.toL.map mk) := by rw [hpos]; exact hown
      obtain ⟨rfp, hp⟩ := own_post hlt hb (by omega) hown (fun i u j c hi hj => by
        rw [hcell i u hi] at hj
        have hj0 : j = 0 := by
          rcases Nat.eq_zero_or_pos j with h | h
          · exact h
          · rw [List.getElem?_eq_none (by simp; omega)] at hj; cases hj
        subst hj0
        simp at hj; subst hj
        refine ⟨mk u, ?_, hmk2 S w' i u hi⟩
        rw [hpos, Nat.mul_one, Nat.add_zero, List.getElem?_map, hi]; rfl) (fun i u hi => by rw [hcell i u hi, hpos]; rfl)
      exact ⟨v', S, rfp, [], rfl, hp⟩
  cases hv with
  | slE base cap _ h0 =>
    have hnone : ∀ i : Nat, a.toL[i]? = none := fun i => List.getElem?_eq_none (by rw [Arr.length_toL]; omega)
    cases base with
    | none =>
      refine (hnil 0 cap w).mono ?_
      rintro e' w' ⟨rfl, rfl⟩
      obtain ⟨rfp, hp⟩ := own_post (e := e) (xs := []) hlt (Below.refl w'.heap.size w') (a := a) (by omega) ⟨by simp [h0], .inl ⟨rfl, h0⟩⟩ (fun i u j c hi => by rw [hnone i] at hi; cases hi) (fun i u hi => by rw [hnone i] at hi; cases hi)
      exact ⟨_, S, rfp, [], rfl, hp⟩
    | some ad =>
      have := go ad cap (fun i u hi => by rw [hnone i] at hi; cases hi)
      rw [h0] at this
      exact this
  | sl b o len cap _ x hl hc hS hz hx hr =>
    subst hl
    exact go ⟨b, o, none⟩ cap (fun i u hi => by
      have h1 := hx i u 0 u hi (by rw [hcell i u hi]; rfl)
      have h2 := hr i u 0 u hi (by rw [hcell i u hi]; rfl)
      rw [hpos, Nat.mul_one, Nat.add_zero] at h1
      exact ⟨_, by rw [Addr.add_lit]; exact h1, h2⟩)
def valOf : V → Value
  | .int k n => .int k n
  | .str s => .string s
  | .bool b => .bool b
  | _ => undef
theorem cloneB_ok (l : List Int) (hl : l.length ≤ bound) : CallOK Try.prog 62 [.sl false (.ints .u8 l)] (.sl true (.ints .u8 l)) [] := by
  unfold bound at hl
  have form : ∀ (i : Nat) (u : V), (Arr.ints IntKind.u8 l).toL[i]? = some u → ∃ n, u = .int .u8 n := by
    intro i u hi
    simp only [Arr.toL, List.getElem?_map, Option.map_eq_some_iff] at hi
    obtain ⟨n, _, rfl⟩ := hi
    exact ⟨n, rfl⟩
  refine clone_ok (e := 5) valOf rfl (fun i u hi => ?_) (fun S w i u x hi hr => ?_) (fun S w i u hi => ?_) clone62_nil (fun ad c news w h1 h2 h3 => clone62 ad _ c news w h1 (by simp only [Arr.len, maxLen]; omega) (by simp only [Arr.len]; omega) h2 h3)
  · obtain ⟨n, rfl⟩ := form i u hi; rfl
  · obtain ⟨n, rfl⟩ := form i u hi; exact hr.ground_int
  · obtain ⟨n, rfl⟩ := form i u hi; exact .int _ _
theorem cloneS_ok (l : List ByteArray) (hl : l.length ≤ 1000000000000) : CallOK Try.prog 76 [.sl false (.strs l)] (.sl true (.strs l)) [] := by
  have form : ∀ (i : Nat) (u : V), (Arr.strs l : Arr V).toL[i]? = some u → ∃ n, u = .str n := by
    intro i u hi
    simp only [Arr.toL, List.getElem?_map, Option.map_eq_some_iff] at hi
    obtain ⟨n, _, rfl⟩ := hi
    exact ⟨n, rfl⟩
  refine clone_ok (e := 9) valOf rfl (fun i u hi => ?_) (fun S w i u x hi hr => ?_) (fun S w i u hi => ?_) clone76_nil (fun ad c news w h1 h2 h3 => clone76 ad _ c news w h1 (by simp only [Arr.len, maxLen]; omega) (by simp only [Arr.len]; omega) h2 h3)
  · obtain ⟨n, rfl⟩ := form i u hi; rfl
  · obtain ⟨n, rfl⟩ := form i u hi; exact hr.ground_str
  · obtain ⟨n, rfl⟩ := form i u hi; exact .str _
end Go.Proofs.Ytfkkigbbejhfbaa
