/- Places: made, given up, shared. -/
import Derived.Test.YtfkkigbbejhfbaaSound6
namespace Go.Proofs.Ytfkkigbbejhfbaa.Idl
open Go
variable {P : Program}
section
variable {F : Fx} {S S' : Nat → Prop} {own own' : Nat → Option Nat} {T T' : Nat → Value} {s : St} {a : Act} {w w' : World} {M M' : List V} {R : Type}

theorem pl_set (M : List V) (id j : Nat) (c : V) : pl (M.set id c) j = if j = id ∧ id < M.length then c else pl M j := by
  unfold pl
  simp only [List.getD_eq_getElem?_getD, List.getElem?_set]
  by_cases h : id = j
  · subst h
    by_cases hl : id < M.length <;> simp [hl]
  · rw [if_neg h, if_neg (fun h' => h h'.1.symm)]
theorem pl_push (M : List V) (j : Nat) (c : V) : pl (M ++ [c]) j = if j = M.length then c else pl M j := by
  unfold pl
  simp only [List.getD_eq_getElem?_getD]
  by_cases h : j = M.length
  · subst h; simp
  · rw [if_neg h]
    by_cases hl : j < M.length
    · rw [List.getElem?_append_left hl]
    · rw [List.getElem?_append_right (by omega), List.getElem?_eq_none (by simp; omega), List.getElem?_eq_none (by omega)]
theorem pl_lt {M : List V} {id : Nat} {c : V} (h : pl M id = c) (hc : c ≠ .dead) : id < M.length := (List.getElem?_eq_some_iff.1 (pl_eq h hc)).1

theorem FR.change (h : FR F S own T s a w) (L : Later S S' w w' T T' s.M M')
    (hP : ∀ (id : Nat) c, M'[id]? = some c → PR S' w' T' M' own' id c)
    (hown : ∀ b id, own' b = some id → b < w'.heap.size ∧ ¬ S' b ∧ ¬ F.K b ∧ id < M'.length)
    (hslt : ∀ b, S' b → b < w'.heap.size) (hkeep : ∀ b, F.K b → w'.heap[b]? = w.heap[b]?) (hsz : w.heap.size ≤ w'.heap.size)
    (hout : w'.os = w.os ∧ w'.tape = w.tape ∧ w'.output = w.output) (hsk : ∀ b, S' b → S b ∨ ¬ F.K b) :
    FR F S' own' T' { s with M := M' } a w' := by
  refine ⟨h.len, fun t v c hv hc => (h.tmps t v c hv hc).later L, hP, h.defers, hown, hslt, fun b hb => ⟨(h.keep b hb).1, (hkeep b hb).trans (h.keep b hb).2⟩,
    Nat.le_trans h.size hsz, ?_, fun b hb => L.hS b (h.s0 b hb), fun b hb => ?_, h.s0k, h.roots.1, fun i id v hi hv => ?_⟩
  · obtain ⟨h1, h2, h3⟩ := h.outside
    exact ⟨hout.1.trans h1, hout.2.1.trans h2, hout.2.2.trans h3⟩
  · rcases hsk b hb with h' | h'
    · exact h.sk b h'
    · exact .inr h'
  · obtain ⟨h1, h2⟩ := h.roots.2 i id v hi hv
    exact ⟨by rw [L.hT id h2]; exact h1, Nat.lt_of_lt_of_le h2 L.hM⟩

def without (own : Nat → Option Nat) (id : Nat) (b : Nat) : Option Nat := if own b = some id then none else own b
def plus (S : Nat → Prop) (p : Prop) (own : Nat → Option Nat) (id : Nat) (b : Nat) : Prop := S b ∨ p ∧ own b = some id

/-- a place gives up what it owns: it is shared from now on (p), or free -/
theorem FR.drop (h : FR F S own T s a w) (id : Nat) (p : Prop) (c' : V) (hid : id < s.M.length)
    (hsl : ∀ o ar, c' = .sl o ar → ∃ o' a', pl s.M id = .sl o' a' ∧ a'.esz = ar.esz ∧ a'.len = ar.len)
    (hP : PR (plus S p own id) w T (s.M.set id c') (without own id) id c') :
    FR F (plus S p own id) (without own id) T { s with M := s.M.set id c' } a w := by
  have L : Later S (plus S p own id) w w T T s.M (s.M.set id c') := ⟨fun b hb => .inl hb, fun _ _ => rfl, fun _ _ => rfl, by simp, fun j o ar hj hpl => by
    rw [pl_set] at hpl
    split at hpl
    · rename_i hji; rw [hji.1]; exact hsl o ar hpl
    · exact ⟨o, ar, hpl, rfl, rfl⟩⟩
  refine h.change L (fun j c hc => ?_) (fun b j hb => ?_) (fun b hb => ?_) (fun _ _ => rfl) (Nat.le_refl _) ⟨rfl, rfl, rfl⟩ (fun b hb => ?_)
  · by_cases hj : j = id
    · subst hj
      rw [List.getElem?_set_self hid] at hc
      cases hc; exact hP
    · rw [List.getElem?_set_ne (Ne.symm hj)] at hc
      refine (h.places j c hc).later L (List.getElem?_eq_some_iff.1 hc).1 (fun b hb => ⟨?_, rfl⟩)
      simp [without, hb, hj]
  · unfold without at hb
    split at hb
    · exact absurd hb (by simp)
    · rename_i hne
      obtain ⟨h1, h2, h3, h4⟩ := h.own b j hb
      refine ⟨h1, ?_, h3, by simpa using h4⟩
      rintro (h' | ⟨_, h'⟩)
      · exact h2 h'
      · exact hne h'
  · rcases hb with hb | ⟨_, hb⟩
    · exact h.slt b hb
    · exact (h.own b id hb).1
  · rcases hb with hb | ⟨_, hb⟩
    · exact .inl hb
    · exact .inr (h.own b id hb).2.2.1

def freeB (F : Fx) (S : Nat → Prop) (own : Nat → Option Nat) (w : World) (b : Nat) : Prop := b < w.heap.size → (¬ S b ∧ ¬ F.K b ∧ own b = none)

/-- a new place; the world may have grown, and free blocks may have been written -/
theorem FR.newPlace (h : FR F S own T s a w) (v : Value) (c : V) (nb : Option Nat) 
    (hsame : ∀ b, b < w.heap.size → (S b ∨ F.K b ∨ ∃ id, own b = some id) → w'.heap[b]? = w.heap[b]?) (hsz : w.heap.size ≤ w'.heap.size) (hout : w'.os = w.os ∧ w'.tape = w.tape ∧ w'.output = w.output)
    (hnb : ∀ b, nb = some b → b < w'.heap.size ∧ freeB F S own w b)
    (hP : ∀ own' T', (∀ b, nb = some b → own' b = some s.M.length) → T' s.M.length = v → (∀ j, j < s.M.length → T' j = T j) → Later S S w w' T T' s.M (s.M ++ [c]) → PR S w' T' (s.M ++ [c]) own' s.M.length c) :
    ∃ own' T', FR F S own' T' { s with M := s.M ++ [c] } a w' ∧ T' s.M.length = v ∧ (∀ j, j < s.M.length → T' j = T j) ∧ Later S S w w' T T' s.M (s.M ++ [c]) ∧
      (∀ b, own' b = if nb = some b then some s.M.length else own b) := by
  let own' : Nat → Option Nat := fun b => if nb = some b then some s.M.length else own b
  let T' : Nat → Value := fun j => if j = s.M.length then v else T j
  have hT1 : T' s.M.length = v := by simp [T']
  have hT2 : ∀ j, j < s.M.length → T' j = T j := fun j hj => by simp [T']; intro e; omega
  have L : Later S S w w' T T' s.M (s.M ++ [c]) := ⟨fun _ h => h, fun b hb => hsame b (h.slt b hb) (.inl hb), hT2, by simp, fun j o ar hj hpl => by
    rw [pl_push, if_neg (by omega)] at hpl
    exact ⟨o, ar, hpl, rfl, rfl⟩⟩
  refine ⟨own', T', ?_, hT1, hT2, L, fun b => rfl⟩
  refine h.change L (fun j c' hc => ?_) (fun b j hb => ?_) (fun b hb => Nat.lt_of_lt_of_le (h.slt b hb) hsz) (fun b hb => hsame b (by have := (h.keep b hb).1; have := h.size; omega) (.inr (.inl hb))) hsz hout (fun b hb => .inl hb)
  · by_cases hj : j < s.M.length
    · rw [List.getElem?_append_left hj] at hc
      refine (h.places j c' hc).later L hj (fun b hb => ?_)
      have hlt := (h.own b j hb).1
      refine ⟨?_, hsame b hlt (.inr (.inr ⟨j, hb⟩))⟩
      have : ¬ nb = some b := fun e => by
        have := ((hnb b e).2 hlt).2.2
        rw [hb] at this; cases this
      simp [own', this, hb]
    · have hj' : j = s.M.length := by
        have := (List.getElem?_eq_some_iff.1 hc).1
        simp at this; omega
      subst hj'
      simp at hc
      subst hc
      exact hP own' T' (fun b hb => by simp [own', hb]) hT1 hT2 L
  · simp only [own'] at hb
    split at hb
    · rename_i e
      cases hb
      obtain ⟨h1, h2⟩ := hnb b e
      refine ⟨h1, fun hs => ?_, fun hk => ?_, by simp⟩
      · have := h.slt b hs
        exact (h2 this).1 hs
      · have hb' : b < w.heap.size := by have := (h.keep b hk).1; have := h.size; omega
        exact (h2 hb').2.1 hk
    · obtain ⟨h1, h2, h3, h4⟩ := h.own b j hb
      exact ⟨by omega, h2, h3, by simp; omega⟩

theorem RT.plain_of {v : Value} {c : V} (h : RT S w T M v c) (h1 : c ≠ .dead) (h2 : ∀ id, c ≠ .rs id) (h3 : ∀ id off, c ≠ .pr id off) (h4 : ∀ id i off, c ≠ .er id i off) : RepL S w v c := by
  cases c with
  | rs id => exact absurd rfl (h2 id)
  | pr id off => exact absurd rfl (h3 id off)
  | er id i off => exact absurd rfl (h4 id i off)
  | dead => exact absurd rfl h1
  | bool b => exact h
  | int k n => exact h
  | str s => exact h
  | nils => exact h
  | nilp => exact h
  | nilf => exact h
  | sl o a => exact h
  | agg l => exact h
  | tup l => exact h
  | pv l off => exact h
  | pt l => exact h
  | fn f cap => exact h

/-- the way of a frame whose world stands: places are given up -/
structure Sunk (F : Fx) (S S' : Nat → Prop) (own own' : Nat → Option Nat) (w : World) (T : Nat → Value) (M M' : List V) : Prop where
  later : Later S S' w w T T M M'
  hown : ∀ b id, own' b = some id → own b = some id
  len : M'.length = M.length
  new : ∀ b, S' b → S b ∨ ∃ id, own b = some id
  keep : ∀ id x, pl M' id = .sl true x → pl M id = .sl true x
theorem Sunk.refl : Sunk F S S own own w T M M := ⟨.refl, fun _ _ h => h, rfl, fun _ h => .inl h, fun _ _ h => h⟩
theorem Later.trans {S1 S2 S3 : Nat → Prop} {w1 w2 w3 : World} {T1 T2 T3 : Nat → Value} {M1 M2 M3 : List V} (h : Later S1 S2 w1 w2 T1 T2 M1 M2) (k : Later S2 S3 w2 w3 T2 T3 M2 M3) : Later S1 S3 w1 w3 T1 T3 M1 M3 :=
  ⟨fun b hb => k.hS b (h.hS b hb), fun b hb => (k.hw b (h.hS b hb)).trans (h.hw b hb), fun id hid => (k.hT id (Nat.lt_of_lt_of_le hid h.hM)).trans (h.hT id hid), Nat.le_trans h.hM k.hM, fun id o a hid hp => by
    obtain ⟨o2, a2, h2, e2, f2⟩ := k.sl id o a (Nat.lt_of_lt_of_le hid h.hM) hp
    obtain ⟨o1, a1, h1, e1, f1⟩ := h.sl id o2 a2 hid h2
    exact ⟨o1, a1, h1, e1.trans e2, f1.trans f2⟩⟩
theorem Sunk.trans {S1 S2 S3 : Nat → Prop} {o1 o2 o3 : Nat → Option Nat} {M1 M2 M3 : List V} (h : Sunk F S1 S2 o1 o2 w T M1 M2) (k : Sunk F S2 S3 o2 o3 w T M2 M3) : Sunk F S1 S3 o1 o3 w T M1 M3 :=
  ⟨h.later.trans k.later, fun b id hb => h.hown b id (k.hown b id hb), k.len.trans h.len, fun b hb => by
    rcases k.new b hb with h' | ⟨id, h'⟩
    · exact h.new b h'
    · exact .inr ⟨id, h.hown b id h'⟩, fun id x hx => h.keep id x (k.keep id x hx)⟩

theorem without_own {b id id' : Nat} (h : without own id b = some id') : own b = some id' := by
  unfold without at h
  split at h
  · exact absurd h (by simp)
  · exact h

theorem FR.drop_sunk (_h : FR F S own T s a w) (id : Nat) (p : Prop) (c' : V) (hsl : ∀ o ar, c' = .sl o ar → ∃ o' a', pl s.M id = .sl o' a' ∧ a'.esz = ar.esz ∧ a'.len = ar.len) (hnt : ∀ x, c' ≠ .sl true x) :
    Sunk F S (plus S p own id) own (without own id) w T s.M (s.M.set id c') := by
  refine ⟨⟨fun b hb => .inl hb, fun _ _ => rfl, fun _ _ => rfl, by simp, fun j o ar hj hpl => ?_⟩, fun b j hb => without_own hb, by simp, fun b hb => ?_, fun j x hx => ?_⟩
  · rw [pl_set] at hpl
    split at hpl
    · rename_i hji; rw [hji.1]; exact hsl o ar hpl
    · exact ⟨o, ar, hpl, rfl, rfl⟩
  · rcases hb with hb | ⟨_, hb⟩
    · exact .inl hb
    · exact .inr ⟨id, hb⟩
  · rw [pl_set] at hx
    split at hx
    · exact absurd hx (hnt x)
    · exact hx

/-! ### what is shared -/
theorem share1_sound (h : FR F S own T s a w) {v : Value} {c : V} (hrt : RT S w T s.M v c) {Kc : List V → V → Option R} {r : R} (hk : share1 s.M c Kc = some r) :
    ∃ S' own' M' c', FR F S' own' T { s with M := M' } a w ∧ Sunk F S S' own own' w T s.M M' ∧ RepL S' w v c' ∧ Kc M' c' = some r := by
  unfold share1 at hk
  split at hk
  · rename_i id
    obtain ⟨hlt, rfl, _⟩ := hrt
    split at hk
    · rename_i o ar hpl
      have hP := h.place hpl (by simp)
      have hsl : ∀ o' ar', V.sl false ar = .sl o' ar' → ∃ o'' a', pl s.M id = .sl o'' a' ∧ a'.esz = ar'.esz ∧ a'.len = ar'.len := by
        intro o' ar' e
        cases e
        exact ⟨o, ar, hpl, rfl, rfl⟩
      have hrep : RepL (plus S True own id) w (T id) (.sl false ar) := by
        cases o with
        | false => exact RepL.mono (fun b hb => .inl hb) (fun _ _ => rfl) hP
        | true => exact (hP.1.mono (S' := plus S True own id) (fun b hb => .inl hb) (fun _ _ => rfl) (fun _ _ => rfl)).share (fun b hb => .inr ⟨trivial, hP.2 b hb⟩)
      exact ⟨_, _, _, _, h.drop id True (.sl false ar) hlt hsl hrep, h.drop_sunk id True _ hsl (by simp), hrep, hk⟩
    · exact absurd hk (by simp)
  all_goals first | exact absurd hk (by simp) | skip
  rename_i n1 n2 n3 n4 n5 n6 n7 n8 n9
  exact ⟨S, own, s.M, c, h, .refl, hrt.plain_of (fun e => n9 e) (fun id e => n1 id e) (fun id off e => n3 id off e) (fun id i off e => n4 id i off e), hk⟩

theorem shareL_sound : ∀ (l : List V) (M : List V) (S : Nat → Prop) (own : Nat → Option Nat) (xs : List Value) (Kc : List V → List V → Option R) (r : R), FR F S own T { s with M := M } a w → xs.length = l.length →
    (∀ (j : Nat) x c, xs[j]? = some x → l[j]? = some c → RT S w T M x c) → shareL M l Kc = some r →
    ∃ S' own' M' l', FR F S' own' T { s with M := M' } a w ∧ Sunk F S S' own own' w T M M' ∧ l'.length = l.length ∧ (∀ (j : Nat) x c, xs[j]? = some x → l'[j]? = some c → RepL S' w x c) ∧ Kc M' l' = some r
  | [], M, S, own, xs, Kc, r, h, _, _, hk => ⟨S, own, M, [], h, .refl, rfl, fun j x c _ hc => by simp at hc, hk⟩
  | c :: l, M, S, own, [], Kc, r, h, hl, _, hk => by simp at hl
  | c :: l, M, S, own, x :: xs, Kc, r, h, hl, hrt, hk => by
    simp only [shareL] at hk
    obtain ⟨S1, own1, M1, c1, h1, k1, r1, hk1⟩ := share1_sound (s := { s with M := M }) h (hrt 0 x c rfl rfl) hk
    obtain ⟨S2, own2, M2, l2, h2, k2, e2, r2, hk2⟩ := shareL_sound l M1 S1 own1 xs _ r h1 (by simpa using hl) (fun j x c hx hc => (hrt (j + 1) x c hx hc).later k1.later) hk1
    refine ⟨S2, own2, M2, c1 :: l2, h2, k1.trans k2, by simp [e2], fun j y d hy hd => ?_, hk2⟩
    cases j with
    | zero => simp at hy hd; subst hy hd; exact r1.mono k2.later.hS (fun _ _ => rfl)
    | succ j => exact r2 j y d hy hd

/-- shared values, structs among them -/
def RepA (S : Nat → Prop) (w : World) (v : Value) : V → Prop
  | .agg l => ∃ cs : List Value, v = .agg cs.toArray ∧ cs.length = l.length ∧ ∀ (j : Nat) x c, cs[j]? = some x → l[j]? = some c → RepL S w x c
  | c => RepL S w v c
theorem RepA.mono (hS : ∀ b, S b → S' b) (hw : ∀ b, S b → w'.heap[b]? = w.heap[b]?) {v : Value} {c : V} (h : RepA S w v c) : RepA S' w' v c := by
  cases c with
  | agg l =>
    obtain ⟨cs, h1, h2, h3⟩ := h
    exact ⟨cs, h1, h2, fun j x c hx hc => (h3 j x c hx hc).mono hS hw⟩
  | _ => exact RepL.mono hS hw h
theorem RepA.of_rep {v : Value} {c : V} (h : RepL S w v c) : RepA S w v c := by
  cases c with
  | agg l => exact absurd rfl (h.not_agg.1 l)
  | _ => exact h
theorem RTV.of_repA {v : Value} {c : V} (h : RepA S w v c) : RTV S w T M v c := by
  cases c with
  | agg l =>
    obtain ⟨cs, h1, h2, h3⟩ := h
    exact ⟨cs, h1, h2, fun j x c hx hc => ⟨(h3 j x c hx hc).not_agg.2.2, .of_rep (h3 j x c hx hc)⟩⟩
  | tup l => exact absurd rfl ((RepL.not_agg (show RepL S w v (.tup l) from h)).2.1 l)
  | bool b => exact .of_rep h
  | int k n => exact .of_rep h
  | str s => exact .of_rep h
  | nils => exact .of_rep h
  | nilp => exact .of_rep h
  | nilf => exact .of_rep h
  | sl o a => exact .of_rep h
  | pv l off => exact .of_rep h
  | pt l => exact .of_rep h
  | fn f cap => exact .of_rep h
  | dead => trivial
  | rs id => exact .of_rep h
  | pr id off => exact .of_rep h
  | er id i off => exact .of_rep h

theorem repL_pv_off {b off : Nat} {l : List V} (h : RepL S w (.pointer (some ⟨b, 0, none⟩)) (.pv l 0)) : RepL S w (.pointer (some ⟨b, off, none⟩)) (.pv l off) := by
  generalize hv : Value.pointer (some ⟨b, 0, none⟩) = v at h
  generalize hc : V.pv l 0 = c at h
  cases h with
  | pv b' o off' l' x hS hxx hr =>
    cases hc
    simp only [Value.pointer.injEq, Option.some.injEq, Addr.mk.injEq, Nat.add_zero] at hv
    obtain ⟨rfl, rfl, _⟩ := hv
    have := RepL.pv b 0 off l x hS hxx hr
    simpa using this
  | _ => cases hc

theorem share_sound (h : FR F S own T s a w) {v : Value} {c : V} (hrt : RTV S w T s.M v c) {Kc : List V → V → Option R} {r : R} (hk : share s.M c Kc = some r) :
    ∃ S' own' M' c', FR F S' own' T { s with M := M' } a w ∧ Sunk F S S' own own' w T s.M M' ∧ RepA S' w v c' ∧ Kc M' c' = some r := by
  unfold share at hk
  split at hk
  · rename_i id off
    obtain ⟨hlt, b, hT, rfl⟩ := rtv_pr hrt
    split at hk
    · rename_i l hpl
      obtain ⟨b', cs, e, h1, h2, h3, h4, h5⟩ := h.place hpl (by simp)
      rw [hT] at h1; cases h1
      have hd := h.drop id True .dead hlt (fun _ _ e => by cases e) trivial
      have kd := h.drop_sunk id True .dead (fun _ _ e => by cases e) (by simp)
      obtain ⟨S2, own2, M2, l2, f2, k2, e2, r2, hk2⟩ := shareL_sound l (s.M.set id .dead) (plus S True own id) (without own id) cs.toList _ r hd (by simpa using h3)
        (fun j x c hx hc => ((h4 j x c (by rw [← Array.getElem?_toList]; exact hx) hc).2).later kd.later) hk
      have hSb : S2 b := k2.later.hS b (.inr ⟨trivial, h5⟩)
      have hcell : ∀ (j : Nat) x, cs[j]? = some x → w.cell? ⟨b, 0 + j, none⟩ = some x := by
        intro j x hx
        simp only [World.cell?, h2, Nat.zero_add]
        simpa using hx
      have hpv : ∀ off, RepL S2 w (.pointer (some ⟨b, 0 + off, none⟩)) (.pv l2 off) := by
        intro off
        refine .pv b 0 off l2 (fun j => (cs[j]?).getD undef) hSb (fun j c hc => ?_) (fun j c hc => ?_)
        · have hj : j < cs.size := by have := (List.getElem?_eq_some_iff.1 hc).1; omega
          rw [Array.getElem?_eq_getElem hj]
          exact hcell j cs[j] (Array.getElem?_eq_getElem hj)
        · have hj : j < cs.size := by have := (List.getElem?_eq_some_iff.1 hc).1; omega
          rw [Array.getElem?_eq_getElem hj]
          exact r2 j cs[j] c (by rw [Array.getElem?_toList]; exact Array.getElem?_eq_getElem hj) hc
      have hlt2 : id < M2.length := by rw [k2.len]; simpa using hlt
      have f3 := f2.drop id False (.pv l2 0) hlt2 (fun _ _ e => by cases e) ⟨rfl, b, hT, by
        rw [hT]
        exact (hpv 0).mono (fun b hb => .inl hb) (fun _ _ => rfl)⟩
      refine ⟨_, _, _, _, f3, (kd.trans k2).trans (f2.drop_sunk id False (.pv l2 0) (fun _ _ e => by cases e) (by simp)), ?_, hk2⟩
      have := (hpv off).mono (S' := plus S2 False own2 id) (w' := w) (fun b hb => .inl hb) (fun _ _ => rfl)
      rw [Nat.zero_add] at this
      exact this
    · rename_i l off' hpl
      obtain ⟨h0, b', h1, h2⟩ := h.place hpl (by simp)
      rw [hT] at h1 h2; cases h1
      refine ⟨S, own, s.M, _, h, .refl, ?_, hk⟩
      exact repL_pv_off h2
    · exact absurd hk (by simp)
  · rename_i l
    obtain ⟨xs, rfl, hlen, hxs⟩ := (show RTA S w T s.M v (.agg l) from hrt)
    obtain ⟨S2, own2, M2, l2, f2, k2, e2, r2, hk2⟩ := shareL_sound l s.M S own xs _ r h hlen (fun j x c hx hc => (hxs j x c hx hc).2) hk
    exact ⟨S2, own2, M2, .agg l2, f2, k2, ⟨xs, rfl, by omega, r2⟩, hk2⟩
  · rename_i n1 n2
    have hrt' : RT S w T s.M v c := by
      cases c with
      | agg l => exact absurd rfl (n2 l)
      | tup l => simp [share1] at hk
      | _ => exact hrt
    obtain ⟨S', own', M', c', f, k, rr, hk'⟩ := share1_sound h hrt' hk
    exact ⟨S', own', M', c', f, k, .of_rep rr, hk'⟩
end
end Go.Proofs.Ytfkkigbbejhfbaa.Idl
