/- Marks in a frame: what is of no more use is forgotten, places get new numbers. -/
import Derived.Test.YtfkkigbbejhfbaaSound18
namespace Go.Proofs.Ytfkkigbbejhfbaa.Idl
open Go
variable {P : Program}
section
variable {F : Fx} {S S' : Nat → Prop} {own own' : Nat → Option Nat} {T T' : Nat → Value} {s : St} {a : Act} {w w' : World} {M M' : List V} {R : Type}

theorem addId_nodup {acc : List Nat} (id : Nat) (h : acc.Nodup) : (addId acc id).Nodup := by
  unfold addId
  split
  · exact h
  · rename_i hn
    refine List.nodup_append.2 ⟨h, by simp, fun x hx y hy e => ?_⟩
    simp only [List.mem_singleton] at hy
    subst e hy
    exact hn (by simpa using hx)
theorem addId_mem {acc : List Nat} {id x : Nat} (h : x ∈ acc) : x ∈ addId acc id := by
  unfold addId
  split
  · exact h
  · simp [h]
theorem addId_self {acc : List Nat} {id : Nat} : id ∈ addId acc id := by
  unfold addId
  split
  · rename_i h; simpa using h
  · simp
theorem reach1_ok {acc : List Nat} (v : V) (h : acc.Nodup) : (reach1 acc v).Nodup ∧ ∀ x, x ∈ acc → x ∈ reach1 acc v := by
  unfold reach1
  split <;> first | exact ⟨addId_nodup _ h, fun x hx => addId_mem hx⟩ | exact ⟨h, fun _ hx => hx⟩
theorem fold1_ok : ∀ (l : List V) (acc : List Nat), acc.Nodup → (l.foldl reach1 acc).Nodup ∧ ∀ x, x ∈ acc → x ∈ l.foldl reach1 acc
  | [], acc, h => ⟨h, fun _ hx => hx⟩
  | v :: l, acc, h => by
    obtain ⟨h1, h2⟩ := reach1_ok v h
    obtain ⟨h3, h4⟩ := fold1_ok l (reach1 acc v) h1
    exact ⟨h3, fun x hx => h4 x (h2 x hx)⟩
theorem reachV_ok {acc : List Nat} (v : V) (h : acc.Nodup) : (reachV acc v).Nodup ∧ ∀ x, x ∈ acc → x ∈ reachV acc v := by
  unfold reachV
  split <;> first | exact fold1_ok _ _ h | exact reach1_ok _ h
theorem foldV_ok : ∀ (l : List V) (acc : List Nat), acc.Nodup → (l.foldl reachV acc).Nodup ∧ ∀ x, x ∈ acc → x ∈ l.foldl reachV acc
  | [], acc, h => ⟨h, fun _ hx => hx⟩
  | v :: l, acc, h => by
    obtain ⟨h1, h2⟩ := reachV_ok v h
    obtain ⟨h3, h4⟩ := foldV_ok l (reachV acc v) h1
    exact ⟨h3, fun x hx => h4 x (h2 x hx)⟩
theorem reachM_ok : ∀ (ids acc : List Nat), acc.Nodup → (reachM M ids acc).Nodup ∧ ∀ x, x ∈ acc → x ∈ reachM M ids acc
  | [], acc, h => ⟨h, fun _ hx => hx⟩
  | id :: ids, acc, h => by
    unfold reachM
    split
    · rename_i l _
      obtain ⟨h1, h2⟩ := fold1_ok l acc h
      obtain ⟨h3, h4⟩ := reachM_ok ids (l.foldl reach1 acc) h1
      exact ⟨h3, fun x hx => h4 x (h2 x hx)⟩
    · exact reachM_ok ids acc h
theorem foldI_ok : ∀ (l acc : List Nat), acc.Nodup → (l.foldl addId acc).Nodup ∧ (∀ x, x ∈ acc → x ∈ l.foldl addId acc) ∧ ∀ x, x ∈ l → x ∈ l.foldl addId acc
  | [], acc, h => ⟨h, fun _ hx => hx, fun x hx => by simp at hx⟩
  | v :: l, acc, h => by
    obtain ⟨h3, h4, h5⟩ := foldI_ok l (addId acc v) (addId_nodup v h)
    refine ⟨h3, fun x hx => h4 x (addId_mem hx), fun x hx => ?_⟩
    rcases List.mem_cons.1 hx with rfl | hx
    · exact h4 _ addId_self
    · exact h5 x hx

theorem idxOf_some {l : List Nat} {x j : Nat} (h : l.idxOf? x = some j) : l[j]? = some x := by
  rw [List.idxOf?, List.findIdx?_eq_some_iff_getElem] at h
  obtain ⟨h1, h2, _⟩ := h
  rw [List.getElem?_eq_getElem h1]
  simpa using h2
theorem idxOf_nodup {l : List Nat} (hn : l.Nodup) {x j : Nat} (h : l[j]? = some x) : l.idxOf? x = some j := by
  cases e : l.idxOf? x with
  | none =>
    rw [List.idxOf?, List.findIdx?_eq_none_iff] at e
    have := e x (List.mem_of_getElem? h)
    simp at this
  | some i =>
    have h2 := idxOf_some e
    have h3 := (List.getElem?_eq_some_iff.1 h).1
    have h4 := (List.getElem?_eq_some_iff.1 h2).1
    have := (List.getElem_inj (h₀ := h4) (h₁ := h3) hn).1 (by rw [(List.getElem?_eq_some_iff.1 h2).2, (List.getElem?_eq_some_iff.1 h).2])
    rw [this]
theorem idxOf_mem {l : List Nat} {x : Nat} (h : x ∈ l) : ∃ j, l.idxOf? x = some j := by
  cases e : l.idxOf? x with
  | none =>
    rw [List.idxOf?, List.findIdx?_eq_none_iff] at e
    have := e x h
    simp at this
  | some i => exact ⟨i, rfl⟩

/-- a place's new number -/
structure Ren (M M' : List V) (T T' : Nat → Value) (ord : List Nat) : Prop where
  nodup : ord.Nodup
  len : M'.length = ord.length
  T : ∀ (j id : Nat), ord[j]? = some id → T' j = T id
  pl : ∀ (j id : Nat), ord[j]? = some id → pl M' j = renP ord (pl M id)
theorem Ren.idx {ord : List Nat} (h : Ren M M' T T' ord) {id j : Nat} (hi : ord.idxOf? id = some j) : j < M'.length ∧ T' j = T id ∧ Idl.pl M' j = renP ord (Idl.pl M id) := by
  have := idxOf_some hi
  exact ⟨by rw [h.len]; exact (List.getElem?_eq_some_iff.1 this).1, h.T j id this, h.pl j id this⟩

theorem ren1_sound {ord : List Nat} (h : Ren M M' T T' ord) {v : Value} {c : V} (hr : RT S w T M v c) : RT S w T' M' v (ren1 ord c) := by
  cases c with
  | rs id =>
    simp only [ren1]
    split
    · rename_i j hj
      obtain ⟨h1, h2, h3⟩ := h.idx hj
      exact ⟨h1, by rw [h2]; exact hr.2.1, hr.2.2⟩
    · trivial
  | pr id off =>
    simp only [ren1]
    split
    · rename_i j hj
      obtain ⟨h1, h2, h3⟩ := h.idx hj
      obtain ⟨_, b, e1, e2⟩ := hr
      exact ⟨h1, b, by rw [h2]; exact e1, e2⟩
    · trivial
  | er id i off =>
    simp only [ren1]
    split
    · rename_i j hj
      obtain ⟨h1, h2, h3⟩ := h.idx hj
      obtain ⟨_, hr⟩ := hr
      refine ⟨h1, fun o a hp => ?_⟩
      rw [h3] at hp
      have hp' : pl M id = .sl o a := by
        unfold renP at hp
        split at hp
        · rename_i l _
          cases hc : ((l.map (ren1 ord)).all okCell) <;> rw [hc] at hp <;> simp at hp
        · exact hp
      rw [h2]
      exact hr o a hp'
    · trivial
  | dead => trivial
  | bool b => exact hr
  | int k n => exact hr
  | str s => exact hr
  | nils => exact hr
  | nilp => exact hr
  | nilf => exact hr
  | sl o a => exact hr
  | agg l => exact hr
  | tup l => exact hr
  | pv l off => exact hr
  | pt l => exact hr
  | fn f cap => exact hr
theorem ren1_shape {ord : List Nat} (c : V) : (∀ l, c ≠ .agg l) → (∀ l, c ≠ .tup l) → (∀ l, ren1 ord c ≠ .agg l) ∧ (∀ l, ren1 ord c ≠ .tup l) := by
  intro h1 h2
  cases c with
  | agg l => exact absurd rfl (h1 l)
  | tup l => exact absurd rfl (h2 l)
  | rs id => simp only [ren1]; split <;> simp
  | pr id off => simp only [ren1]; split <;> simp
  | er id i off => simp only [ren1]; split <;> simp
  | _ => simp [ren1]
theorem renA_sound {ord : List Nat} (h : Ren M M' T T' ord) {v : Value} {c : V} (hr : RTA S w T M v c) : RTA S w T' M' v (renA ord c) := by
  by_cases hc : ∃ l, c = .agg l
  · obtain ⟨l, rfl⟩ := hc
    obtain ⟨cs, rfl, hl, hx⟩ := hr
    simp only [renA]
    cases hd : ((l.map (ren1 ord)).any V.isDead) with
    | true => exact trivial
    | false =>
      refine ⟨cs, rfl, by simpa using hl, fun j x c hj hc => ?_⟩
      rw [List.getElem?_map, Option.map_eq_some_iff] at hc
      obtain ⟨d, hd', rfl⟩ := hc
      refine ⟨fun e => ?_, ren1_sound h (hx j x d hj hd').2⟩
      rw [List.any_eq_false] at hd
      have := hd (ren1 ord d) (List.mem_map_of_mem (List.mem_of_getElem? hd'))
      rw [e] at this
      simp [V.isDead] at this
  · have hn : ∀ l, c ≠ .agg l := fun l e => hc ⟨l, e⟩
    rw [rta_eq hn] at hr
    have e : renA ord c = ren1 ord c := by
      cases c with
      | agg l => exact absurd rfl (hn l)
      | _ => rfl
    rw [e]
    have := ren1_sound h hr
    by_cases ht : ∃ l, c = .tup l
    · obtain ⟨l, rfl⟩ := ht
      exact absurd (show RepL S w v (.tup l) from hr) (fun h => by cases h)
    · exact .of_rt this (ren1_shape c hn (fun l e => ht ⟨l, e⟩)).1
theorem renV_sound {ord : List Nat} (h : Ren M M' T T' ord) {v : Value} {c : V} (hr : RTV S w T M v c) : RTV S w T' M' v (renV ord c) := by
  by_cases hc : ∃ l, c = .tup l
  · obtain ⟨l, rfl⟩ := hc
    obtain ⟨cs, rfl, hl, hx⟩ := hr
    simp only [renV]
    refine ⟨cs, rfl, by simpa using hl, fun j x c hj hc => ?_⟩
    rw [List.getElem?_map, Option.map_eq_some_iff] at hc
    obtain ⟨d, hd', rfl⟩ := hc
    exact renA_sound h (hx j x d hj hd')
  · have hn : ∀ l, c ≠ .tup l := fun l e => hc ⟨l, e⟩
    rw [rtv_eq hn] at hr
    have e : renV ord c = renA ord c := by
      cases c with
      | tup l => exact absurd rfl (hn l)
      | _ => rfl
    rw [e]
    refine .of_rta (renA_sound h hr) (fun l e => ?_)
    cases c with
    | agg l =>
      simp only [renA] at e
      cases hd : ((l.map (ren1 ord)).any V.isDead) <;> rw [hd] at e <;> simp at e
    | tup l => exact absurd rfl (hn l)
    | rs id => exact (ren1_shape (ord := ord) (.rs id) (by simp) (by simp)).2 l e
    | pr id off => exact (ren1_shape (ord := ord) (.pr id off) (by simp) (by simp)).2 l e
    | er id i off => exact (ren1_shape (ord := ord) (.er id i off) (by simp) (by simp)).2 l e
    | _ => simp [renA, ren1] at e

theorem renP_sound {ord : List Nat} (h : Ren M M' T T' ord) {id j : Nat} (hj : ord[j]? = some id) {c : V} (hown : ∀ b, own b = some id → own' b = some j) (hp : PR S w T M own id c) : PR S w T' M' own' j (renP ord c) := by
  have eT := h.T j id hj
  cases c with
  | pt l =>
    obtain ⟨b, cs, e, h1, h2, h3, h4, h5⟩ := hp
    simp only [renP]
    cases hd : ((l.map (ren1 ord)).all okCell) with
    | false => trivial
    | true =>
      refine ⟨b, cs, e, by rw [eT]; exact h1, h2, by simpa using h3, fun i x c hx hc => ?_, hown b h5⟩
      rw [List.getElem?_map, Option.map_eq_some_iff] at hc
      obtain ⟨d, hd', rfl⟩ := hc
      exact ⟨List.all_eq_true.1 hd _ (List.mem_map_of_mem (List.mem_of_getElem? hd')), ren1_sound h (h4 i x d hx hd').2⟩
  | sl o ar =>
    cases o with
    | true =>
      refine ⟨by rw [eT]; exact hp.1, fun b hb => hown b (hp.2 b ?_)⟩
      rw [eT] at hb; exact hb
    | false =>
      show RepL S w (T' j) _
      rw [eT]; exact hp
  | pv l off =>
    obtain ⟨h0, b, h1, h2⟩ := hp
    exact ⟨h0, b, by rw [eT]; exact h1, by rw [eT]; exact h2⟩
  | dead => trivial
  | bool b => exact hp.elim
  | int k n => exact hp.elim
  | str s => exact hp.elim
  | nils => exact hp.elim
  | nilp => exact hp.elim
  | nilf => exact hp.elim
  | agg l => exact hp.elim
  | tup l => exact hp.elim
  | fn f cap => exact hp.elim
  | rs id => exact hp.elim
  | pr id off => exact hp.elim
  | er id i off => exact hp.elim

/-- new numbers -/
theorem FR.ren (h : FR F S own T s a w) (tmps : List V) (hl : tmps.length = s.tmps.length) (ht : ∀ (t : Nat) c c', s.tmps[t]? = some c → tmps[t]? = some c' → c' = c ∨ c' = .dead) (ord : List Nat) (hn : ord.Nodup) (hr : ∀ id, id ∈ s.roots → id ∈ ord) :
    ∃ own' T', FR F S own' T' { tmps := tmps.map (renV ord), M := ord.map fun id => renP ord (pl s.M id), roots := s.roots.map fun id => (ord.idxOf? id).getD 0 } a w := by
  let T' : Nat → Value := fun j => T (ord.getD j 0)
  let own' : Nat → Option Nat := fun b => (own b).bind fun id => ord.idxOf? id
  have hR : Ren s.M (ord.map fun id => renP ord (pl s.M id)) T T' ord := by
    refine ⟨hn, by simp, fun j id hj => by simp [T', hj], fun j id hj => ?_⟩
    simp [pl, hj]
  refine ⟨own', T', ?_⟩
  refine ⟨by simp [h.len, hl], fun t v c hv hc => ?_, fun j c hc => ?_, h.defers, fun b j hb => ?_, h.slt, h.keep, h.size, h.outside, h.s0, h.sk, h.s0k, by simpa using h.roots.1, fun i j v hi hv => ?_⟩
  · simp only [List.getElem?_map, Option.map_eq_some_iff] at hc
    obtain ⟨d, hd, rfl⟩ := hc
    have hlt : t < s.tmps.length := by rw [← hl]; exact (List.getElem?_eq_some_iff.1 hd).1
    rcases ht t s.tmps[t] d (List.getElem?_eq_getElem hlt) hd with e | e
    · refine renV_sound hR (h.tmps t v d hv ?_)
      rw [e]; exact List.getElem?_eq_getElem hlt
    · subst e; trivial
  · simp only [List.getElem?_map, Option.map_eq_some_iff] at hc
    obtain ⟨id, hj, rfl⟩ := hc
    by_cases hid : id < s.M.length
    · refine renP_sound hR hj (fun b hb => ?_) (h.places id (pl s.M id) (by simp [pl, hid]))
      simp only [own', hb, Option.bind_some]
      exact idxOf_nodup hn hj
    · have : pl s.M id = .dead := by simp [pl, List.getElem?_eq_none (Nat.le_of_not_lt hid)]
      rw [this]; trivial
  · simp only [own', Option.bind_eq_some_iff] at hb
    obtain ⟨id, h1, h2⟩ := hb
    obtain ⟨e1, e2, e3, _⟩ := h.own b id h1
    exact ⟨e1, e2, e3, (hR.idx h2).1⟩
  · simp only [List.getElem?_map, Option.map_eq_some_iff] at hi
    obtain ⟨id, hi, rfl⟩ := hi
    obtain ⟨e1, e2⟩ := h.roots.2 i id v hi hv
    obtain ⟨j, hj⟩ := idxOf_mem (hr id (List.mem_of_getElem? hi))
    rw [hj]
    obtain ⟨h1, h2, _⟩ := hR.idx hj
    exact ⟨by simp only [Option.getD_some]; rw [h2]; exact e1, h1⟩

theorem canon0_sound (h : FR F S own T s a w) (m : Mask) : ∃ own' T', FR F S own' T' (canon0 m s) a w := by
  unfold canon0
  simp only
  have h0 := foldI_ok s.roots [] (by simp)
  have h1 := foldV_ok (killOther m s.tmps) _ h0.1
  have h2 := reachM_ok (M := s.M) ((killOther m s.tmps).foldl reachV (s.roots.foldl addId [])) _ h1.1
  refine FR.ren h (killOther m s.tmps) (by simp [killOther]) (fun t c c' hc hc' => ?_) _ h2.1 (fun id hid => h2.2 id (h1.2 id (h0.2.2 id hid)))
  simp only [killOther, List.getElem?_mapIdx, hc, Option.map_some, Option.some.injEq] at hc'
  split at hc'
  · exact .inl hc'.symm
  · exact .inr hc'.symm

theorem FR.reput (h : FR F S own T s a w) {t : Nat} {c : V} (hc : ∀ v, a.tmps[t]? = some v → RTV S w T s.M v c) : FR F S own T (s.put (some t) c) a w := by
  refine { h with len := by simpa [St.put] using h.len, tmps := fun t' v' c' hv' hc' => ?_ }
  simp only [St.put, List.getElem?_set] at hc'
  split at hc'
  · rename_i e
    subst e
    split at hc'
    · cases hc'
      exact hc v' hv'
    · cases hc'
  · exact h.tmps t' v' c' hv' hc'

theorem freezeTmps_sound : ∀ (m : Mask) (s : St) (S : Nat → Prop) (own : Nat → Option Nat) {K : St → Option R} {r : R}, FR F S own T s a w → freezeTmps m s K = some r →
    ∃ S' own' s', FR F S' own' T s' a w ∧ K s' = some r
  | [], s, S, own, K, r, h, hk => ⟨S, own, s, h, hk⟩
  | (t, false) :: m, s, S, own, K, r, h, hk => freezeTmps_sound m s S own h hk
  | (t, true) :: m, s, S, own, K, r, h, hk => by
    simp only [freezeTmps] at hk
    obtain ⟨S1, own1, M1, c1, f1, k1, r1, hk1⟩ := share_sound h (h.eval (.tmp t)) hk
    refine freezeTmps_sound m _ S1 own1 (f1.reput (t := t) (c := c1) (fun v hv => ?_)) hk1
    have : a.eval (.tmp t) = v := by simp [Act.eval, hv]
    rw [← this]
    exact .of_repA r1

theorem canon_sound (h : FR F S own T s a w) {m : Mask} {K : St → Option R} {r : R} (hk : canon m s K = some r) : HPost F K r a w := by
  rw [canon_eq] at hk
  obtain ⟨S1, own1, s1, f1, hk1⟩ := freezeTmps_sound m s S own h hk
  obtain ⟨own2, T2, f2⟩ := canon0_sound f1 m
  exact ⟨S1, own2, T2, _, f2, hk1⟩
theorem masked_sound (h : FR F S own T s a w) {live : Live} {k : Nat} {c : Code} {K : St → Option R} {r : R} (hk : masked live k c s K = some r) : HPost F K r a w := by
  unfold masked at hk
  split at hk
  · exact canon_sound h hk
  · exact ⟨S, own, T, s, h, hk⟩
theorem maskedX_sound (h : FR F S own T s a w) {live : Live} {id : Option Nat} {K : St → Option R} {r : R} (hk : maskedX live id s K = some r) : HPost F K r a w := by
  unfold maskedX at hk
  split at hk
  · exact canon_sound h hk
  · exact ⟨S, own, T, s, h, hk⟩
end
end Go.Proofs.Ytfkkigbbejhfbaa.Idl
