/- Calls: what a callee owes; what is lent and handed over. -/
import Derived.Test.YtfkkigbbejhfbaaSound14
namespace Go.Proofs.Ytfkkigbbejhfbaa.Idl
open Go
variable {P : Program}

/-- the values of the object arguments -/
def ptVals : List Value → List V → List Value
  | v :: vs, .pt _ :: l => v :: ptVals vs l
  | _ :: vs, _ :: l => ptVals vs l
  | _, _ => []

structure CallPost (S S' : Nat → Prop) (w w' : World) (fp : List Nat) (v : Value) (res : V) (rfp : List Nat) (ovs : List Value) (outs : List V) (ofps : List (List Nat)) : Prop where
  hS : ∀ b, S b → S' b
  slt : ∀ b, S' b → b < w'.heap.size
  new : ∀ b, S' b → S b ∨ w.heap.size ≤ b ∨ b ∈ fp
  keep : ∀ b, b < w.heap.size → b ∉ fp → w'.heap[b]? = w.heap[b]?
  size : w.heap.size ≤ w'.heap.size
  out : w'.os = w.os ∧ w'.tape = w.tape ∧ w'.output = w.output
  res : OwnT S' w' v rfp res
  outs : OwnVs S' w' ovs ofps outs
  nodup : (rfp ++ ofps.flatten).Nodup
  free : ∀ b, b ∈ rfp ++ ofps.flatten → b < w'.heap.size ∧ ¬ S' b ∧ (w.heap.size ≤ b ∨ b ∈ fp)

def CallOK (P : Program) (f : Nat) (args : List V) (res : V) (outs : List V) : Prop :=
  ∀ (S : Nat → Prop) (w : World) (vs : List Value) (fps : List (List Nat)), (∀ b, S b → b < w.heap.size) → OwnVs S w vs fps args → fps.flatten.Nodup → (∀ b, b ∈ fps.flatten → b < w.heap.size ∧ ¬ S b) →
    Calls P f vs.toArray w fun e w' => ∃ v S' rfp ofps, e = .returned v ∧ CallPost S S' w w' fps.flatten v res rfp (ptVals vs args) outs ofps
def CallsOK (P : Program) (cf : CallF) : Prop := ∀ f args res outs, cf f args = some (res, outs) → CallOK P f args res outs

section
variable {F : Fx} {S S' : Nat → Prop} {own own' : Nat → Option Nat} {T T' : Nat → Value} {s : St} {a : Act} {w w' : World} {M M' : List V} {R : Type}

/-- lent: a shared value, or what lies in a place -/
def LendL (S : Nat → Prop) (w : World) (T : Nat → Value) (M : List V) (x : Value) (c c' : V) : Prop :=
  RepL S w x c' ∨ ∃ id ar, c = .rs id ∧ x = T id ∧ pl M id = .sl true ar ∧ c' = .sl false ar

theorem lend1_sound {E : Env} (_hE : EnvOK P E) (h : FR F S own T { s with M := M } a w) {t : Nat} {v : Value} {c : V} (hrt : RT S w T M v c) {Kc : V → Option R} {r : R} (hk : lend1 E M t c Kc = some r) :
    ∃ c', LendL S w T M v c c' ∧ Kc c' = some r := by
  unfold lend1 at hk
  split at hk
  · rename_i id
    obtain ⟨hlt, hv, _⟩ := hrt
    split at hk
    · rename_i o ar hpl
      cases o with
      | true => exact ⟨_, .inr ⟨id, ar, rfl, hv, hpl, rfl⟩, hk⟩
      | false => exact ⟨_, .inl (by rw [hv]; exact FR.place (s := { s with M := M }) h hpl (by simp)), hk⟩
    · exact absurd hk (by simp)
  · rename_i id off
    obtain ⟨hlt, b, hT, hv⟩ := hrt
    split at hk
    · rename_i l off' hpl
      obtain ⟨h0, b', h1, h2⟩ := FR.place (s := { s with M := M }) h hpl (by simp)
      rw [hT] at h1 h2; cases h1
      exact ⟨_, .inl (by rw [hv]; exact repL_pv_off h2), hk⟩
    · exact absurd hk (by simp)
  · have hv : v = .slice none 0 0 := by cases (show RepL S w v .nils from hrt); rfl
    split at hk
    · exact ⟨_, .inl (by rw [hv]; exact .nils), hk⟩
    · split at hk
      · rename_i te hte
        exact ⟨_, .inl (by rw [hv]; exact .slE none 0 _ te.ek.nil_len), hk⟩
      · exact absurd hk (by simp)
  all_goals first | exact absurd hk (by simp) | skip
  rename_i n1 n2 n3 n4 n5 n6 n7 n8 n9
  exact ⟨c, .inl (hrt.plain_of (fun e => n9 e) (fun id e => n1 id e) (fun id off e => n2 id off e) (fun id i off e => n4 id i off e)), hk⟩

/-- lent, structs among it -/
def LendA (S : Nat → Prop) (w : World) (T : Nat → Value) (M : List V) (x : Value) (c : V) : V → Prop
  | .agg l' => ∃ (l : List V) (xs : List Value), c = .agg l ∧ x = .agg xs.toArray ∧ xs.length = l'.length ∧ l.length = l'.length ∧ ∀ (j : Nat) y d d', xs[j]? = some y → l[j]? = some d → l'[j]? = some d' → LendL S w T M y d d'
  | c' => LendL S w T M x c c'

theorem lendL_sound {E : Env} (hE : EnvOK P E) (h : FR F S own T { s with M := M } a w) : ∀ (l : List V) (xs : List Value) (Kc : List V → Option R) (r : R), xs.length = l.length → (∀ (j : Nat) x c, xs[j]? = some x → l[j]? = some c → RT S w T M x c) → lendL M E l Kc = some r →
    ∃ l', l'.length = l.length ∧ (∀ (j : Nat) x d d', xs[j]? = some x → l[j]? = some d → l'[j]? = some d' → LendL S w T M x d d') ∧ Kc l' = some r
  | [], xs, Kc, r, _, _, hk => ⟨[], rfl, fun j x d d' _ hd => by simp at hd, hk⟩
  | c :: l, [], Kc, r, hl, _, hk => by simp at hl
  | c :: l, x :: xs, Kc, r, hl, hrt, hk => by
    simp only [lendL] at hk
    obtain ⟨c', h1, hk⟩ := lend1_sound hE h (hrt 0 x c rfl rfl) hk
    obtain ⟨l', h2, h3, hk⟩ := lendL_sound hE h l xs _ r (by simpa using hl) (fun j x c hx hc => hrt (j + 1) x c hx hc) hk
    refine ⟨c' :: l', by simp [h2], fun j y d d' hy hd hd' => ?_, hk⟩
    cases j with
    | zero => simp at hy hd hd'; subst hy hd hd'; exact h1
    | succ j => exact h3 j y d d' hy hd hd'

theorem lend_sound {E : Env} (hE : EnvOK P E) (h : FR F S own T { s with M := M } a w) {t : Nat} {v : Value} {c : V} (hrt : RTV S w T M v c) {Kc : V → Option R} {r : R} (hk : lend E M t c Kc = some r) :
    ∃ c', LendA S w T M v c c' ∧ (∀ l, c' ≠ .pt l) ∧ Kc c' = some r := by
  unfold lend at hk
  split at hk
  · rename_i l
    obtain ⟨xs, rfl, hlen, hxs⟩ := (show RTA S w T M v (.agg l) from hrt)
    obtain ⟨l', h1, h2, hk⟩ := lendL_sound hE h l xs _ r hlen (fun j x c hx hc => (hxs j x c hx hc).2) hk
    exact ⟨.agg l', ⟨l, xs, rfl, rfl, by omega, by omega, h2⟩, by simp, hk⟩
  · rename_i n
    have hrt' : RT S w T M v c := by
      cases c with
      | agg l => exact absurd rfl (n l)
      | tup l => simp [lend1] at hk
      | _ => exact hrt
    obtain ⟨c', h1, hk⟩ := lend1_sound hE h hrt' hk
    have hna : ∀ l, c' ≠ .agg l := by
      rintro l rfl
      rcases h1 with h1 | ⟨_, _, _, _, _, h1⟩
      · cases h1
      · cases h1
    have hnp : ∀ l, c' ≠ .pt l := by
      rintro l rfl
      rcases h1 with h1 | ⟨_, _, _, _, _, h1⟩
      · cases h1
      · cases h1
    refine ⟨c', ?_, hnp, hk⟩
    cases c' with
    | agg l => exact absurd rfl (hna l)
    | _ => exact h1

def lentIn (L : List Nat) (own : Nat → Option Nat) (b : Nat) : Prop := ∃ id, id ∈ L ∧ own b = some id
def lend1Ids : V → List Nat
  | .rs id => [id]
  | .agg l => l.filterMap fun v => match v with | .rs id => some id | _ => none
  | _ => []
theorem lentIds_eq : ∀ l : List V, lentIds l = l.flatMap lend1Ids
  | [] => rfl
  | v :: l => by
    cases v <;> simp only [lentIds, lend1Ids, lentIds_eq l, List.flatMap_cons, List.nil_append, List.singleton_append] <;> rfl

/-- what was lent, in the end: shared, if the places lent are -/
theorem LendL.final {S1 : Nat → Prop} {x : Value} {c c' : V} (hS : ∀ b, S b → S1 b) (hl : LendL S w T M x c c') (hR : ∀ id ar, c = .rs id → pl M id = .sl true ar → RepL S1 w (T id) (.sl false ar)) :
    RepL S1 w x c' := by
  rcases hl with hr | ⟨id, ar, rfl, rfl, hpl, rfl⟩
  · exact hr.mono hS (fun _ _ => rfl)
  · exact hR id ar rfl hpl

theorem LendA.final {S1 : Nat → Prop} {x : Value} {c c' : V} (hS : ∀ b, S b → S1 b) (hl : LendA S w T M x c c') (hnp : ∀ l, c' ≠ .pt l) (hR : ∀ id ar, id ∈ lend1Ids c → pl M id = .sl true ar → RepL S1 w (T id) (.sl false ar)) :
    OwnV S1 w x [] c' := by
  have leaf : LendL S w T M x c c' → (∀ l, c' ≠ .agg l) → OwnV S1 w x [] c' := by
    intro hl hna
    rw [ownv_eq hnp hna]
    have := hl.final hS (fun id ar e => hR id ar (by subst e; simp [lend1Ids]))
    cases c' with
    | sl o ar =>
      cases o with
      | true => cases this
      | false => exact ⟨this, rfl⟩
    | _ => exact ⟨this, rfl⟩
  cases c' with
  | agg l' =>
    obtain ⟨l, xs, rfl, rfl, h1, h2, h3⟩ := hl
    refine ⟨xs, List.replicate l'.length [], rfl, h1, by simp, fun j y f d' hy hf hd' => ?_, by simp⟩
    have hfe : f = [] := by
      rw [List.getElem?_replicate] at hf
      split at hf
      · exact (Option.some.inj hf).symm
      · cases hf
    subst hfe
    have hjl : j < l.length := by rw [h2]; exact (List.getElem?_eq_some_iff.1 hd').1
    have hl2 := h3 j y l[j] d' hy (List.getElem?_eq_getElem hjl) hd'
    have hmem : ∀ id, l[j] = .rs id → id ∈ lend1Ids (.agg l) := by
      intro id e
      simp only [lend1Ids, List.mem_filterMap]
      exact ⟨l[j], List.getElem_mem hjl, by rw [e]⟩
    have := hl2.final hS (fun id ar e => hR id ar (hmem id e))
    cases d' with
    | sl o ar =>
      cases o with
      | true => cases this
      | false => exact ⟨this, rfl⟩
    | _ => exact ⟨this, rfl⟩
  | pt l => exact absurd rfl (hnp l)
  | _ => exact leaf hl (by simp)

/-- arguments of a simple call: all lent -/
theorem lendAll_sound {E : Env} (hE : EnvOK P E) (h : FR F S own T { s with M := M } a w) : ∀ (l : List (V × Nat)) (xs : List Value) (Kc : List V → Option R) (r : R), xs.length = l.length →
    (∀ (j : Nat) x p, xs[j]? = some x → l[j]? = some p → RTV S w T M x p.1) → lendAll E M l Kc = some r →
    ∃ l', l'.length = l.length ∧ (∀ (j : Nat) x p c, xs[j]? = some x → l[j]? = some p → l'[j]? = some c → (∀ q, c ≠ .pt q) ∧ LendA S w T M x p.1 c) ∧ Kc l' = some r
  | [], xs, Kc, r, _, _, hk => ⟨[], rfl, fun j x p c _ hp => by simp at hp, hk⟩
  | (c, t) :: l, [], Kc, r, hl, _, hk => by simp at hl
  | (c, t) :: l, x :: xs, Kc, r, hl, hrt, hk => by
    simp only [lendAll] at hk
    obtain ⟨c1, hla, hnp, hk⟩ := lend_sound hE h (hrt 0 x (c, t) rfl rfl) hk
    obtain ⟨l', h2, h3, hk⟩ := lendAll_sound hE h l xs _ r (by simpa using hl) (fun j x p hx hp => hrt (j + 1) x p hx hp) hk
    refine ⟨c1 :: l', by simp [h2], fun j y p d hy hp hd => ?_, hk⟩
    cases j with
    | zero => simp at hy hp hd; subst hy hp hd; exact ⟨hnp, hla⟩
    | succ j => exact h3 j y p d hy hp hd

/-- arguments: objects handed over, the rest lent -/
theorem handAll_sound {E : Env} (hE : EnvOK P E) : ∀ (l : List (V × Nat)) (M : List V) (own : Nat → Option Nat) (xs : List Value) (Kc : List V → List V → List Nat → Option R) (r : R), FR F S own T { s with M := M } a w → xs.length = l.length →
    (∀ (j : Nat) x p, xs[j]? = some x → l[j]? = some p → RTV S w T M x p.1) → handAll E M l Kc = some r →
    ∃ (own' : Nat → Option Nat) (M' l' : List V) (ids : List Nat) (fps : List (List Nat)), FR F S own' T { s with M := M' } a w ∧ Took F S own own' w T M M' fps.flatten ∧ l'.length = l.length ∧ fps.length = l.length ∧
      (∀ (j : Nat) x f p c, xs[j]? = some x → fps[j]? = some f → l[j]? = some p → l'[j]? = some c →
        (∃ q, c = .pt q ∧ OwnV S w x f c) ∨ (f = [] ∧ (∀ q, c ≠ .pt q) ∧ ∃ M1, LendA S w T M1 x p.1 c ∧ ∀ id, pl M' id ≠ .dead → pl M' id = pl M1 id)) ∧
      ptVals xs l' = ids.map T ∧ (∀ id, id ∈ ids → id < M.length) ∧ Kc M' l' ids = some r
  | [], M, own, xs, Kc, r, h, hl, _, hk => by
    have : xs = [] := List.eq_nil_of_length_eq_zero (by simpa using hl)
    subst this
    exact ⟨own, M, [], [], [], h, .nil, rfl, rfl, fun j x f p c hx => by simp at hx, rfl, by simp, hk⟩
  | (c, t) :: l, M, own, [], Kc, r, h, hl, _, hk => by simp at hl
  | (c, t) :: l, M, own, x :: xs, Kc, r, h, hl, hrt, hk => by
    simp only [handAll] at hk
    have hrt0 := hrt 0 x (c, t) rfl rfl
    simp only at hrt0
    have tail : ∀ {own1 : Nat → Option Nat} {M1 : List V} {c1 : V} {f1 : List Nat} {ids1 : List Nat}, FR F S own1 T { s with M := M1 } a w → Took F S own own1 w T M M1 f1 → 
        ((∃ q, c1 = .pt q ∧ OwnV S w x f1 c1 ∧ ∃ id, ids1 = [id] ∧ x = T id ∧ id < M.length) ∨ (f1 = [] ∧ (∀ q, c1 ≠ .pt q) ∧ ids1 = [] ∧ ∃ M2, LendA S w T M2 x c c1 ∧ ∀ id, pl M1 id ≠ .dead → pl M1 id = pl M2 id)) →
        (handAll E M1 l fun M vs' ids' => Kc M (c1 :: vs') (ids1 ++ ids')) = some r →
        ∃ (own' : Nat → Option Nat) (M' l' : List V) (ids : List Nat) (fps : List (List Nat)), FR F S own' T { s with M := M' } a w ∧ Took F S own own' w T M M' fps.flatten ∧ l'.length = ((c, t) :: l).length ∧ fps.length = ((c, t) :: l).length ∧
          (∀ (j : Nat) y f p d, (x :: xs)[j]? = some y → fps[j]? = some f → ((c, t) :: l)[j]? = some p → l'[j]? = some d →
            (∃ q, d = .pt q ∧ OwnV S w y f d) ∨ (f = [] ∧ (∀ q, d ≠ .pt q) ∧ ∃ M1, LendA S w T M1 y p.1 d ∧ ∀ id, pl M' id ≠ .dead → pl M' id = pl M1 id)) ∧
          ptVals (x :: xs) l' = ids.map T ∧ (∀ id, id ∈ ids → id < M.length) ∧ Kc M' l' ids = some r := by
      intro own1 M1 c1 f1 ids1 h1 k1 hc1 hk
      obtain ⟨own2, M2, l2, ids2, fps, h2, k2, e2, e3, r2, hp, hid, hk2⟩ := handAll_sound hE l M1 own1 xs _ r h1 (by simpa using hl) (fun j x p hx hp => (hrt (j + 1) x p hx hp).later k1.later) hk
      refine ⟨own2, M2, c1 :: l2, ids1 ++ ids2, f1 :: fps, h2, k1.trans k2, by simp [e2], by simp [e3], fun j y f p d hy hf hp hd => ?_, ?_, ?_, hk2⟩
      · cases j with
        | zero =>
          simp at hy hf hp hd; subst hy hf hp hd
          rcases hc1 with ⟨q, e, ho, _⟩ | ⟨e, hn, _, M3, hla, hkp⟩
          · exact .inl ⟨q, e, ho⟩
          · refine .inr ⟨e, hn, M3, hla, fun id hid => ?_⟩
            have e4 := k2.keep id hid
            rw [e4] at hid ⊢
            exact hkp id hid
        | succ j => exact r2 j y f p d hy hf hp hd
      · rcases hc1 with ⟨q, rfl, _, id, rfl, rfl, _⟩ | ⟨_, hn, rfl, _⟩
        · simp [ptVals, hp]
        · cases c1 <;> simp [ptVals, hp] <;> exact absurd rfl (hn _)
      · intro id hmem
        rcases List.mem_append.1 hmem with hm | hm
        · rcases hc1 with ⟨q, _, _, id', rfl, _, hlt⟩ | ⟨_, _, rfl, _⟩
          · simp at hm; rw [hm]; exact hlt
          · simp at hm
        · have := hid id hm
          rw [k1.len] at this
          exact this
    unfold handArg at hk
    split at hk
    · rename_i id off
      obtain ⟨hlt, b, hT, hx⟩ := rtv_pr hrt0
      split at hk
      · rename_i q hpl
        split at hk
        · rename_i h0
          subst h0
          obtain ⟨own1, M1, l1, fp, b2, hT2, f1, k1, r1, hk1⟩ := takeObj_sound h hpl hk
          have hxT : x = T id := by rw [hx, hT]
          exact tail f1 k1 (.inl ⟨l1, rfl, by rw [hxT]; exact r1, id, rfl, hxT, hlt⟩) hk1
        · exact absurd hk (by simp)
      · rename_i q off' hpl
        obtain ⟨h0, b', h1, h2⟩ := FR.place (s := { s with M := M }) h hpl (by simp)
        rw [hT] at h1 h2; cases h1
        exact tail (c1 := .pv q off) h .nil (.inr ⟨rfl, by simp, rfl, M, show LendL S w T M x (.pr id off) (.pv q off) from .inl (by rw [hx]; exact repL_pv_off h2), fun _ _ => rfl⟩) hk
      · exact absurd hk (by simp)
    · obtain ⟨c1, hla, hnp, hk1⟩ := lend_sound hE h hrt0 hk
      exact tail h .nil (.inr ⟨rfl, hnp, rfl, M, hla, fun _ _ => rfl⟩) hk1
end
end Go.Proofs.Ytfkkigbbejhfbaa.Idl
