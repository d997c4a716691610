/- What an operation changes: the places that its operands tell of, and new ones. -/
import Derived.Test.YtfkkigbbejhfbaaSound25
namespace Go.Proofs.Ytfkkigbbejhfbaa.Idl
open Go
section
variable {R : Type} {E : Env} {cf : CallF} {M M' : List V}

structure Loc (M M' : List V) (ids : List Nat) : Prop where
  len : M.length ≤ M'.length
  keep : ∀ id, id < M.length → id ∉ ids → pl M' id = pl M id
structure Loc1 (M M' : List V) (ids : List Nat) : Prop where
  len : M'.length = M.length
  keep : ∀ id, id ∉ ids → pl M' id = pl M id
  pt : ∀ id l, pl M' id = .pt l → pl M id = .pt l
theorem Loc.refl {ids : List Nat} : Loc M M ids := ⟨Nat.le_refl _, fun _ _ _ => rfl⟩
theorem Loc.mono {ids ids' : List Nat} (h : Loc M M' ids) (hs : ∀ x, x ∈ ids → x ∈ ids') : Loc M M' ids' := ⟨h.len, fun id h1 h2 => h.keep id h1 (fun h3 => h2 (hs id h3))⟩
theorem Loc.trans {M1 M2 M3 : List V} {ids : List Nat} (h : Loc M1 M2 ids) (k : Loc M2 M3 ids) : Loc M1 M3 ids := ⟨Nat.le_trans h.len k.len, fun id h1 h2 => (k.keep id (Nat.lt_of_lt_of_le h1 h.len) h2).trans (h.keep id h1 h2)⟩
theorem Loc1.refl {ids : List Nat} : Loc1 M M ids := ⟨rfl, fun _ _ => rfl, fun _ _ h => h⟩
theorem Loc1.mono {ids ids' : List Nat} (h : Loc1 M M' ids) (hs : ∀ x, x ∈ ids → x ∈ ids') : Loc1 M M' ids' := ⟨h.len, fun id h2 => h.keep id (fun h3 => h2 (hs id h3)), h.pt⟩
theorem Loc1.trans {M1 M2 M3 : List V} {i1 i2 : List Nat} (h : Loc1 M1 M2 i1) (k : Loc1 M2 M3 i2) : Loc1 M1 M3 (i1 ++ i2) :=
  ⟨k.len.trans h.len, fun id h2 => by rw [List.mem_append, not_or] at h2; exact (k.keep id h2.2).trans (h.keep id h2.1), fun id l hl => h.pt id l (k.pt id l hl)⟩
theorem Loc1.loc {ids : List Nat} (h : Loc1 M M' ids) : Loc M M' ids := ⟨by rw [h.len]; exact Nat.le_refl _, fun id _ h2 => h.keep id h2⟩
theorem loc_set {id : Nat} {c : V} {ids : List Nat} (h : id ∈ ids) : Loc M (M.set id c) ids := ⟨by simp, fun j _ hj => by
  rw [pl_set, if_neg (by rintro ⟨rfl, _⟩; exact hj h)]⟩
theorem loc1_set {id : Nat} {c : V} (hc : ∀ l, c ≠ .pt l) : Loc1 M (M.set id c) [id] := ⟨by simp, fun j hj => by
  rw [pl_set, if_neg (by rintro ⟨rfl, _⟩; exact hj (by simp))], fun j l hl => by
  rw [pl_set] at hl
  split at hl
  · exact absurd hl (hc l)
  · exact hl⟩
theorem loc_push {c : V} {ids : List Nat} : Loc M (M ++ [c]) ids := ⟨by simp, fun j hj _ => by rw [pl_push, if_neg (by omega)]⟩
theorem touch_mono {v : V} (h : ∀ id l, pl M' id = .pt l → pl M id = .pt l) : ∀ x, x ∈ touch M' v → x ∈ touch M v := by
  intro x hx
  unfold touch at hx ⊢
  rw [List.mem_append] at hx ⊢
  rcases hx with hx | hx
  · exact .inl hx
  · refine .inr ?_
    rw [List.mem_flatMap] at hx ⊢
    obtain ⟨id, h1, h2⟩ := hx
    refine ⟨id, h1, ?_⟩
    split at h2
    · rename_i l hl
      rw [h id l hl]
      exact h2
    · simp at h2
theorem touch_refs {v : V} {x : Nat} (h : x ∈ refs v) : x ∈ touch M v := by
  unfold touch; rw [List.mem_append]; exact .inl h

theorem share1_l {v : V} {K : List V → V → Option R} {r : R} (h : share1 M v K = some r) : ∃ M' c, K M' c = some r ∧ Loc1 M M' (refs1 v) := by
  unfold share1 at h
  split at h
  · split at h
    · exact ⟨_, _, h, loc1_set (by simp)⟩
    · exact absurd h (by simp)
  all_goals first | exact absurd h (by simp) | exact ⟨_, _, h, .refl⟩
theorem shareL_l : ∀ {R : Type} {l M : List V} {K : List V → List V → Option R} {r : R}, shareL M l K = some r → ∃ M' c, K M' c = some r ∧ Loc1 M M' (l.flatMap refs1)
  | _, [], M, K, r, h => ⟨_, _, h, .refl⟩
  | _, v :: l, M, K, r, h => by
    simp only [shareL] at h
    obtain ⟨M1, c1, h, k1⟩ := share1_l h
    obtain ⟨M2, c2, h, k2⟩ := shareL_l h
    exact ⟨M2, _, h, by rw [List.flatMap_cons]; exact k1.trans k2⟩
theorem share_l {v : V} {K : List V → V → Option R} {r : R} (h : share M v K = some r) : ∃ M' c, K M' c = some r ∧ Loc1 M M' (touch M v) := by
  unfold share at h
  split at h
  · rename_i id off
    split at h
    · rename_i l hl
      obtain ⟨M1, c1, h, k1⟩ := shareL_l h
      have k0 : Loc1 M (M.set id .dead) [id] := loc1_set (by simp)
      have k2 : Loc1 M1 (M1.set id (.pv c1 0)) [id] := loc1_set (by simp)
      refine ⟨_, _, h, ((k0.trans k1).trans k2).mono (fun x hx => ?_)⟩
      simp only [List.mem_append, List.mem_singleton] at hx
      rcases hx with (hx | hx) | hx
      · exact touch_refs (by simp [refs, refs1, hx])
      · unfold touch
        rw [List.mem_append, List.mem_flatMap]
        exact .inr ⟨id, by simp [refs, refs1], by rw [hl]; exact hx⟩
      · exact touch_refs (by simp [refs, refs1, hx])
    · exact ⟨_, _, h, .refl⟩
    · exact absurd h (by simp)
  · rename_i l
    obtain ⟨M1, c1, h, k1⟩ := shareL_l h
    exact ⟨_, _, h, k1.mono (fun x hx => touch_refs hx)⟩
  · rename_i n1 n2
    obtain ⟨M1, c1, h, k1⟩ := share1_l h
    refine ⟨_, _, h, k1.mono (fun x hx => touch_refs ?_)⟩
    unfold refs
    split
    · rename_i l; exact absurd rfl (n2 l)
    · simp [refs1] at hx
    · exact hx
theorem shareAll_l : ∀ {R : Type} {l M : List V} {K : List V → List V → Option R} {r : R}, shareAll M l K = some r → ∃ M' c, K M' c = some r ∧ Loc1 M M' (l.flatMap (touch M))
  | _, [], M, K, r, h => ⟨_, _, h, .refl⟩
  | _, v :: l, M, K, r, h => by
    simp only [shareAll] at h
    obtain ⟨M1, c1, h, k1⟩ := share_l h
    obtain ⟨M2, c2, h, k2⟩ := shareAll_l h
    refine ⟨M2, _, h, (k1.trans k2).mono (fun x hx => ?_)⟩
    rw [List.flatMap_cons]
    rcases List.mem_append.1 hx with hx | hx
    · exact List.mem_append.2 (.inl hx)
    · refine List.mem_append.2 (.inr ?_)
      rw [List.mem_flatMap] at hx ⊢
      obtain ⟨u, h1, h2⟩ := hx
      exact ⟨u, h1, touch_mono k1.pt x h2⟩
theorem take1_l {v : V} {K : List V → V → Option R} {r : R} (h : take1 M v K = some r) : ∃ M' c, K M' c = some r ∧ Loc1 M M' (refs1 v) := by
  unfold take1 at h
  split at h
  · split at h
    · exact ⟨_, _, h, loc1_set (by simp)⟩
    · exact absurd h (by simp)
  all_goals first | exact absurd h (by simp) | exact ⟨_, _, h, .refl⟩
theorem takeL_l : ∀ {R : Type} {l M : List V} {K : List V → List V → Option R} {r : R}, takeL M l K = some r → ∃ M' c, K M' c = some r ∧ Loc1 M M' (l.flatMap refs1)
  | _, [], M, K, r, h => ⟨_, _, h, .refl⟩
  | _, v :: l, M, K, r, h => by
    simp only [takeL] at h
    obtain ⟨M1, c1, h, k1⟩ := take1_l h
    obtain ⟨M2, c2, h, k2⟩ := takeL_l h
    exact ⟨M2, _, h, by rw [List.flatMap_cons]; exact k1.trans k2⟩
theorem handArg_l {v : V} {t : Nat} {K : List V → V → List Nat → Option R} {r : R} (h : handArg E M v t K = some r) : ∃ M' c ids, K M' c ids = some r ∧ Loc1 M M' (touch M v) ∧ ∀ x, x ∈ ids → x ∈ touch M v := by
  unfold handArg at h
  split at h
  · rename_i id off
    split at h
    · rename_i l hl
      split at h
      · obtain ⟨M1, c1, h, k1⟩ := takeL_l h
        have k0 : Loc1 M (M.set id .dead) [id] := loc1_set (by simp)
        refine ⟨_, _, _, h, (k0.trans k1).mono (fun x hx => ?_), fun x hx => touch_refs (by simpa [refs, refs1] using hx)⟩
        simp only [List.mem_append, List.mem_singleton] at hx
        rcases hx with hx | hx
        · exact touch_refs (by simp [refs, refs1, hx])
        · unfold touch
          rw [List.mem_append, List.mem_flatMap]
          exact .inr ⟨id, by simp [refs, refs1], by rw [hl]; exact hx⟩
      · exact absurd h (by simp)
    · exact ⟨_, _, _, h, .refl, fun x hx => by simp at hx⟩
    · exact absurd h (by simp)
  · have h2 := nat_of (R := R) (R' := R) (α := V) (f := fun R K => lend E M t v K) some (fun R K => lend_b K)
    rw [lend_b] at h
    cases e : lend E M t v some with
    | none => rw [e] at h; exact absurd h (by simp)
    | some c => rw [e] at h; exact ⟨M, c, [], h, .refl, fun x hx => by simp at hx⟩
theorem handAll_l : ∀ {R : Type} {l : List (V × Nat)} {M : List V} {K : List V → List V → List Nat → Option R} {r : R}, handAll E M l K = some r →
    ∃ M' c ids, K M' c ids = some r ∧ Loc1 M M' (l.flatMap fun p => touch M p.1) ∧ ∀ x, x ∈ ids → x ∈ l.flatMap fun p => touch M p.1
  | _, [], M, K, r, h => ⟨_, _, _, h, .refl, fun x hx => by simp at hx⟩
  | _, (v, t) :: l, M, K, r, h => by
    simp only [handAll] at h
    obtain ⟨M1, c1, i1, h, k1, j1⟩ := handArg_l h
    obtain ⟨M2, c2, i2, h, k2, j2⟩ := handAll_l h
    have back : ∀ x, (x ∈ l.flatMap fun p => touch M1 p.1) → x ∈ l.flatMap fun p => touch M p.1 := by
      intro x hx
      rw [List.mem_flatMap] at hx ⊢
      obtain ⟨u, h1, h2⟩ := hx
      exact ⟨u, h1, touch_mono k1.pt x h2⟩
    refine ⟨M2, _, _, h, (k1.trans k2).mono (fun x hx => ?_), fun x hx => ?_⟩
    · rw [List.flatMap_cons]
      rcases List.mem_append.1 hx with hx | hx
      · exact List.mem_append.2 (.inl hx)
      · exact List.mem_append.2 (.inr (back x hx))
    · rw [List.flatMap_cons]
      rcases List.mem_append.1 hx with hx | hx
      · exact List.mem_append.2 (.inl (j1 x hx))
      · exact List.mem_append.2 (.inr (back x (j2 x hx)))
theorem lay1_l {c : V} {ids : List Nat} : Loc M (lay1 M c).1 ids := by
  unfold lay1; split
  · exact loc_push
  · exact .refl
theorem layL_l {ids : List Nat} : ∀ {l M : List V}, Loc M (layL M l).1 ids
  | [], M => .refl
  | c :: l, M => lay1_l.trans (layL_l (l := l))
theorem lay_l {c : V} {ids : List Nat} : Loc M (lay M c).1 ids := by
  unfold lay; split
  · exact layL_l.trans loc_push
  · exact layL_l
  · exact lay1_l
theorem layAll_l {ids : List Nat} : ∀ {l M : List V}, Loc M (layAll M l).1 ids
  | [], M => .refl
  | c :: l, M => lay_l.trans (layAll_l (l := l))
theorem layRes_l {c : V} {ids : List Nat} : Loc M (layRes M c).1 ids := by
  unfold layRes; split
  · exact layAll_l
  · exact lay_l
theorem layZero_l {ids : List Nat} : ∀ {l M : List V}, Loc M (layZero M l).1 ids
  | [], M => .refl
  | c :: l, M => by
    unfold layZero
    split
    · rename_i e; cases e
    · rename_i e; cases e; exact loc_push.trans layZero_l
    · rename_i e; cases e; exact layZero_l
theorem backAll_l : ∀ {R : Type} {ids : List Nat} {vs M : List V} {K : List V → Option R} {r : R} (big : List Nat), (∀ x, x ∈ ids → x ∈ big) → backAll M ids vs K = some r → ∃ M', K M' = some r ∧ Loc M M' big
  | _, [], [], M, K, r, big, _, h => ⟨_, h, .refl⟩
  | _, [], _ :: _, M, K, r, big, _, h => by simp [backAll] at h
  | _, id :: ids, [], M, K, r, big, _, h => by simp [backAll] at h
  | _, id :: ids, v :: vs, M, K, r, big, hb, h => by
    cases v with
    | pt l =>
      simp only [backAll] at h
      obtain ⟨M2, h, k⟩ := backAll_l big (fun x hx => hb x (by simp [hx])) h
      exact ⟨M2, h, (layL_l.trans (loc_set (hb id (by simp)))).trans k⟩
    | _ => simp [backAll] at h
theorem freezeIds_l {big : List Nat} : ∀ {ids : List Nat} {M : List V}, (∀ x, x ∈ ids → x ∈ big) → Loc M (freezeIds M ids) big
  | [], M, _ => .refl
  | id :: ids, M, hb => by
    simp only [freezeIds]
    refine Loc.trans ?_ (freezeIds_l (fun x hx => hb x (by simp [hx])))
    split
    · exact loc_set (hb id (by simp))
    · exact .refl
theorem typed_l {t : Nat} {v : V} {K : List V → V → Option R} {r : R} (h : typed E M t v K = some r) : ∃ M' c, K M' c = some r ∧ (∀ ids, Loc M M' ids) ∧ (c = v ∧ M' = M ∨ ∃ a, M' = M ++ [V.sl true a] ∧ c = .rs M.length ∧ a.len = 0) := by
  unfold typed at h
  split at h
  · split at h
    · rename_i te _
      exact ⟨_, _, h, fun _ => loc_push, .inr ⟨_, rfl, rfl, te.ek.nil_len⟩⟩
    · exact absurd h (by simp)
  · exact ⟨_, _, h, fun _ => .refl, .inl ⟨rfl, rfl⟩⟩
theorem loc_new {ids : List Nat} {c : V} {id : Nat} (h : id ∈ ids ∨ M.length ≤ id) (k : Loc M M' ids) : Loc M (M'.set id c) ids := ⟨by simpa using k.len, fun j hj hn => by
  rw [pl_set, if_neg (by rintro ⟨rfl, _⟩; rcases h with h | h; exact hn h; omega)]
  exact k.keep j hj hn⟩

theorem some_u {α R : Type} {f : ∀ R : Type, (α → Option R) → Option R} (hf : ∀ (R : Type) (K : α → Option R), f R K = (f α some).bind K) {K : α → Option R} {r : R} (h : f R K = some r) : ∃ c, f α some = some c ∧ K c = some r := by
  rw [hf] at h
  exact Option.bind_eq_some_iff.1 h

theorem appendV_l {t u : Nat} {x y : V} {K : List V → V → Option R} {r : R} (h : appendV E M t u x y K = some r) : ∃ M' c, K M' c = some r ∧ Loc M M' (refs x) := by
  unfold appendV at h
  split at h
  · exact absurd h (by simp)
  · split at h
    · obtain ⟨M1, c1, h, k1, hc⟩ := typed_l h
      split at h
      · rename_i id
        have hid : id ∈ refs x ∨ M.length ≤ id := by
          rcases hc with ⟨rfl, _⟩ | ⟨a, _, e, _⟩
          · exact .inl (by simp [refs, refs1])
          · cases e; exact .inr (Nat.le_refl _)
        have fin : ∀ c, Loc M (M1.set id .dead ++ [c]) (refs x) := fun c => (loc_new hid (k1 _)).trans loc_push
        split at h
        · split at h
          · split at h
            · split at h
              · exact ⟨_, _, h, fin _⟩
              · exact absurd h (by simp)
            · split at h
              · split at h
                · exact ⟨_, _, h, fin _⟩
                · exact absurd h (by simp)
              · exact absurd h (by simp)
            · split at h
              · exact absurd h (by simp)
              · split at h
                · obtain ⟨b, _, h⟩ := some_u (f := fun R K => sliceOf M1 _ K) (fun R K => sliceOf_b K) h
                  split at h
                  · obtain ⟨ab, _, h⟩ := some_u (f := fun R K => Arr.app _ b K) (fun R K => app_b K) h
                    exact ⟨_, _, h, fin _⟩
                  · exact absurd h (by simp)
                · exact absurd h (by simp)
            · split at h
              · obtain ⟨b, _, h⟩ := some_u (f := fun R K => sliceOf M1 _ K) (fun R K => sliceOf_b K) h
                split at h
                · obtain ⟨ab, _, h⟩ := some_u (f := fun R K => Arr.app _ b K) (fun R K => app_b K) h
                  exact ⟨_, _, h, fin _⟩
                · exact absurd h (by simp)
              · exact absurd h (by simp)
          · exact absurd h (by simp)
        · exact absurd h (by simp)
      · exact absurd h (by simp)
    · exact absurd h (by simp)
end
end Go.Proofs.Ytfkkigbbejhfbaa.Idl
