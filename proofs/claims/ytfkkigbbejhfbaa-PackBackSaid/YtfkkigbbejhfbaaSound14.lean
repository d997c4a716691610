/- Values that own their memory; taken out of places, laid into places. -/
import Derived.Test.YtfkkigbbejhfbaaSound13
namespace Go.Proofs.Ytfkkigbbejhfbaa.Idl
open Go
variable {P : Program}

def OwnL (S : Nat → Prop) (w : World) (v : Value) (fp : List Nat) : V → Prop
  | .sl true a => OwnS S w v a ∧ fp = v.ownBlock.toList
  | c => RepL S w v c ∧ fp = []
def okP : V → Bool
  | .sl true _ => true
  | c => okCell c
theorem okP_ok {c : V} (h : okCell c = true) : okP c = true := by
  cases c with
  | sl o a => cases o <;> first | rfl | exact h
  | _ => exact h
def OwnV (S : Nat → Prop) (w : World) (v : Value) (fp : List Nat) : V → Prop
  | .pt l => ∃ (b : Nat) (cs : List Value) (e : TypeId) (fps : List (List Nat)), v = .pointer (some ⟨b, 0, none⟩) ∧ w.heap[b]? = some (.cells cs.toArray e (0, 0)) ∧ cs.length = l.length ∧ fps.length = l.length ∧
      (∀ (j : Nat) x f c, cs[j]? = some x → fps[j]? = some f → l[j]? = some c → OwnL S w x f c) ∧ fp = b :: fps.flatten ∧ ∀ (j : Nat) c, l[j]? = some c → okP c = true
  | .agg l => ∃ (cs : List Value) (fps : List (List Nat)), v = .agg cs.toArray ∧ cs.length = l.length ∧ fps.length = l.length ∧
      (∀ (j : Nat) x f c, cs[j]? = some x → fps[j]? = some f → l[j]? = some c → OwnL S w x f c) ∧ fp = fps.flatten
  | c => OwnL S w v fp c
def OwnT (S : Nat → Prop) (w : World) (v : Value) (fp : List Nat) : V → Prop
  | .tup l => ∃ (cs : List Value) (fps : List (List Nat)), v = .tuple cs.toArray ∧ cs.length = l.length ∧ fps.length = l.length ∧
      (∀ (j : Nat) x f c, cs[j]? = some x → fps[j]? = some f → l[j]? = some c → OwnV S w x f c) ∧ fp = fps.flatten
  | c => OwnV S w v fp c
/-- a list of them -/
def OwnVs (S : Nat → Prop) (w : World) (vs : List Value) (fps : List (List Nat)) (l : List V) : Prop :=
  vs.length = l.length ∧ fps.length = l.length ∧ ∀ (j : Nat) x f c, vs[j]? = some x → fps[j]? = some f → l[j]? = some c → OwnV S w x f c

section
variable {F : Fx} {S S' : Nat → Prop} {own own' : Nat → Option Nat} {T T' : Nat → Value} {s : St} {a : Act} {w w' : World} {M M' : List V} {R : Type}

theorem OwnL.mono (hS : ∀ b, S b → S' b) (hw : ∀ b, S b → w'.heap[b]? = w.heap[b]?) {v : Value} {fp : List Nat} {c : V} (hf : ∀ b, b ∈ fp → w'.heap[b]? = w.heap[b]?) (h : OwnL S w v fp c) : OwnL S' w' v fp c := by
  have sh : (RepL S w v c ∧ fp = []) → RepL S' w' v c ∧ fp = [] := fun h => ⟨h.1.mono hS hw, h.2⟩
  cases c with
  | sl o ar =>
    cases o with
    | true => exact ⟨h.1.mono hS hw (fun b hb => hf b (by rw [h.2, hb]; simp)), h.2⟩
    | false => exact sh h
  | _ => exact sh h
theorem ownv_eq {v : Value} {fp : List Nat} {c : V} (h1 : ∀ l, c ≠ .pt l) (h2 : ∀ l, c ≠ .agg l) : OwnV S w v fp c = OwnL S w v fp c := by
  cases c with
  | pt l => exact absurd rfl (h1 l)
  | agg l => exact absurd rfl (h2 l)
  | _ => rfl
theorem ownt_eq {v : Value} {fp : List Nat} {c : V} (h1 : ∀ l, c ≠ .tup l) : OwnT S w v fp c = OwnV S w v fp c := by
  cases c with
  | tup l => exact absurd rfl (h1 l)
  | _ => rfl
theorem OwnV.mono (hS : ∀ b, S b → S' b) (hw : ∀ b, S b → w'.heap[b]? = w.heap[b]?) {v : Value} {fp : List Nat} {c : V} (hf : ∀ b, b ∈ fp → w'.heap[b]? = w.heap[b]?) (h : OwnV S w v fp c) : OwnV S' w' v fp c := by
  cases c with
  | pt l =>
    obtain ⟨b, cs, e, fps, h1, h2, h3, h4, h5, h6, h7⟩ := h
    refine ⟨b, cs, e, fps, h1, by rw [hf b (by rw [h6]; simp)]; exact h2, h3, h4, fun j x f c hx hff hc => (h5 j x f c hx hff hc).mono hS hw (fun b hb => hf b ?_), h6, h7⟩
    rw [h6]
    exact List.mem_cons_of_mem _ (List.mem_flatten.2 ⟨f, List.mem_of_getElem? hff, hb⟩)
  | agg l =>
    obtain ⟨cs, fps, h1, h3, h4, h5, h6⟩ := h
    refine ⟨cs, fps, h1, h3, h4, fun j x f c hx hff hc => (h5 j x f c hx hff hc).mono hS hw (fun b hb => hf b ?_), h6⟩
    rw [h6]
    exact List.mem_flatten.2 ⟨f, List.mem_of_getElem? hff, hb⟩
  | _ =>
    rw [ownv_eq (by simp) (by simp)] at h ⊢
    exact OwnL.mono hS hw hf h

/-- free blocks of a frame -/
def Free (F : Fx) (S : Nat → Prop) (own : Nat → Option Nat) (w : World) (fp : List Nat) : Prop := fp.Nodup ∧ ∀ b, b ∈ fp → b < w.heap.size ∧ ¬ S b ∧ ¬ F.K b ∧ own b = none

/-! ### taking -/
structure Took (F : Fx) (S : Nat → Prop) (own own' : Nat → Option Nat) (w : World) (T : Nat → Value) (M M' : List V) (fp : List Nat) : Prop where
  later : Later S S w w T T M M'
  len : M'.length = M.length
  free : Free F S own' w fp
  was : ∀ b, b ∈ fp → own b ≠ none
  hown : ∀ b id, own' b = some id → own b = some id
  keep : ∀ id, pl M' id ≠ .dead → pl M' id = pl M id

theorem Took.nil : Took F S own own w T M M [] := ⟨.refl, rfl, ⟨by simp, fun b hb => by simp at hb⟩, fun b hb => by simp at hb, fun _ _ h => h, fun _ _ => rfl⟩
theorem Took.trans {o1 o2 o3 : Nat → Option Nat} {M1 M2 M3 : List V} {f1 f2 : List Nat} (h : Took F S o1 o2 w T M1 M2 f1) (k : Took F S o2 o3 w T M2 M3 f2) : Took F S o1 o3 w T M1 M3 (f1 ++ f2) := by
  refine ⟨h.later.trans k.later, k.len.trans h.len, ⟨List.nodup_append.2 ⟨h.free.1, k.free.1, fun b hb b' hb' e => ?_⟩, fun b hb => ?_⟩, fun b hb => ?_, fun b id hb => h.hown b id (k.hown b id hb), fun id hid => by
    have e := k.keep id hid
    rw [e] at hid ⊢
    exact h.keep id hid⟩
  · subst e
    exact k.was b hb' (h.free.2 b hb).2.2.2
  · rcases List.mem_append.1 hb with hb | hb
    · obtain ⟨h1, h2, h3, h4⟩ := h.free.2 b hb
      refine ⟨h1, h2, h3, ?_⟩
      cases e : o3 b with
      | none => rfl
      | some id => have := k.hown b id e; rw [h4] at this; cases this
    · exact k.free.2 b hb
  · rcases List.mem_append.1 hb with hb | hb
    · exact h.was b hb
    · intro e
      have := k.was b hb
      cases e2 : o2 b with
      | none => exact this e2
      | some id => have := h.hown b id e2; rw [e] at this; cases this

theorem FR.kill (h : FR F S own T { s with M := M } a w) (id : Nat) (hid : id < M.length) : FR F S (without own id) T { s with M := M.set id .dead } a w := by
  have hS0 : plus S False own id = S := funext fun b => propext ⟨fun hb => by rcases hb with hb | ⟨hf, _⟩; exact hb; exact hf.elim, fun hb => .inl hb⟩
  have := FR.drop (s := { s with M := M }) h id False .dead hid (fun _ _ e => by cases e) trivial
  rw [hS0] at this
  exact this
theorem FR.kill_later (id : Nat) : Later S S w w T T M (M.set id .dead) := ⟨fun _ h => h, fun _ _ => rfl, fun _ _ => rfl, by simp, fun j o ar _ hp => by
  rw [pl_set] at hp
  split at hp
  · cases hp
  · exact ⟨o, ar, hp, rfl, rfl⟩⟩
theorem FR.kill_took (h : FR F S own T { s with M := M } a w) (id : Nat) (fp : List Nat) (hn : fp.Nodup) (hfp : ∀ b, b ∈ fp → own b = some id) : Took F S own (without own id) w T M (M.set id .dead) fp :=
  ⟨FR.kill_later id, by simp, ⟨hn, fun b hb => by
    obtain ⟨h1, h2, h3, _⟩ := h.own b id (hfp b hb)
    exact ⟨h1, h2, h3, by simp [without, hfp b hb]⟩⟩, fun b hb => by rw [hfp b hb]; simp, fun b j hb => without_own hb, fun j hj => by
    rw [pl_set] at hj ⊢
    split at hj
    · exact absurd rfl hj
    · rename_i hne; rw [if_neg hne]⟩

theorem take1_sound (h : FR F S own T { s with M := M } a w) {v : Value} {c : V} (hrt : RT S w T M v c) {Kc : List V → V → Option R} {r : R} (hk : take1 M c Kc = some r) :
    ∃ own' M' c' fp, FR F S own' T { s with M := M' } a w ∧ Took F S own own' w T M M' fp ∧ OwnL S w v fp c' ∧ (okCell c = true → okP c' = true) ∧ Kc M' c' = some r := by
  unfold take1 at hk
  split at hk
  · rename_i id
    obtain ⟨hlt, rfl, _⟩ := hrt
    split at hk
    · rename_i o ar hpl
      have hP := FR.place (s := { s with M := M }) h hpl (by simp)
      cases o with
      | true =>
        refine ⟨_, _, .sl true ar, (T id).ownBlock.toList, h.kill id hlt, h.kill_took id _ (by cases (T id).ownBlock <;> simp) (fun b hb => hP.2 b ?_), ⟨hP.1, rfl⟩, fun _ => rfl, hk⟩
        cases e : (T id).ownBlock with
        | none => rw [e] at hb; simp at hb
        | some b' => rw [e] at hb; simp at hb; rw [hb]
      | false => exact ⟨_, _, .sl false ar, [], h.kill id hlt, h.kill_took id _ (by simp) (fun b hb => by simp at hb), ⟨hP, rfl⟩, fun _ => rfl, hk⟩
    · exact absurd hk (by simp)
  all_goals first | exact absurd hk (by simp) | skip
  rename_i n1 n2 n3 n4 n5 n6 n7 n8 n9
  refine ⟨own, M, c, [], h, .nil, ?_, okP_ok, hk⟩
  have hr := hrt.plain_of (fun e => n9 e) (fun id e => n1 id e) (fun id off e => n3 id off e) (fun id i off e => n4 id i off e)
  cases c with
  | sl o ar =>
    cases o with
    | true => exact absurd rfl (n2 ar)
    | false => exact ⟨hr, rfl⟩
  | _ => exact ⟨hr, rfl⟩

theorem takeL_sound : ∀ (l : List V) (M : List V) (own : Nat → Option Nat) (xs : List Value) (Kc : List V → List V → Option R) (r : R), FR F S own T { s with M := M } a w → xs.length = l.length →
    (∀ (j : Nat) x c, xs[j]? = some x → l[j]? = some c → RT S w T M x c) → takeL M l Kc = some r →
    ∃ (own' : Nat → Option Nat) (M' l' : List V) (fps : List (List Nat)), FR F S own' T { s with M := M' } a w ∧ Took F S own own' w T M M' fps.flatten ∧ l'.length = l.length ∧ fps.length = l.length ∧ (∀ (j : Nat) x f c, xs[j]? = some x → fps[j]? = some f → l'[j]? = some c → OwnL S w x f c) ∧ (∀ (j : Nat) c c', l[j]? = some c → l'[j]? = some c' → okCell c = true → okP c' = true) ∧ Kc M' l' = some r
  | [], M, own, xs, Kc, r, h, _, _, hk => ⟨own, M, [], [], h, .nil, rfl, rfl, fun j x f c _ hf => by simp at hf, fun j c c' hc => by simp at hc, hk⟩
  | c :: l, M, own, [], Kc, r, h, hl, _, hk => by simp at hl
  | c :: l, M, own, x :: xs, Kc, r, h, hl, hrt, hk => by
    simp only [takeL] at hk
    obtain ⟨own1, M1, c1, f1, h1, k1, r1, o1, hk1⟩ := take1_sound h (hrt 0 x c rfl rfl) hk
    obtain ⟨own2, M2, l2, fps, h2, k2, e2, e3, r2, o2, hk2⟩ := takeL_sound l M1 own1 xs _ r h1 (by simpa using hl) (fun j x c hx hc => (hrt (j + 1) x c hx hc).later k1.later) hk1
    refine ⟨own2, M2, c1 :: l2, f1 :: fps, h2, k1.trans k2, by simp [e2], by simp [e3], fun j y f d hy hf hd => ?_, fun j d d' hd hd' => ?_, hk2⟩
    · cases j with
      | zero => simp at hy hf hd; subst hy hf hd; exact r1
      | succ j => exact r2 j y f d hy hf hd
    · cases j with
      | zero => simp at hd hd'; subst hd hd'; exact o1
      | succ j => exact o2 j d d' hd hd'

/-- an object, taken with what it holds -/
theorem takeObj_sound (h : FR F S own T { s with M := M } a w) {id : Nat} {l : List V} (hpl : pl M id = .pt l) {Kc : List V → List V → Option R} {r : R} (hk : takeL (M.set id .dead) l Kc = some r) :
    ∃ own' M' l' fp b, T id = .pointer (some ⟨b, 0, none⟩) ∧ FR F S own' T { s with M := M' } a w ∧ Took F S own own' w T M M' fp ∧ OwnV S w (T id) fp (.pt l') ∧ Kc M' l' = some r := by
  have hlt := pl_lt hpl (by simp)
  obtain ⟨b, cs, e, h1, h2, h3, h4, h5⟩ := FR.place (s := { s with M := M }) h hpl (by simp)
  have kd := h.kill_took id [b] (by simp) (fun b' hb => by simp at hb; rw [hb]; exact h5)
  obtain ⟨own2, M2, l2, fps, f2, k2, e2, e3, r2, o2, hk2⟩ := takeL_sound l (M.set id .dead) (without own id) cs.toList _ r (h.kill id hlt) (by simpa using h3)
    (fun j x c hx hc => ((h4 j x c (by rw [← Array.getElem?_toList]; exact hx) hc).2).later (FR.kill_later id)) hk
  refine ⟨own2, M2, l2, b :: fps.flatten, b, h1, f2, kd.trans k2, ⟨b, cs.toList, e, fps, h1, by simpa using h2, by rw [e2]; simpa using h3, by rw [e3, e2], r2, rfl, fun j c hc => ?_⟩, hk2⟩
  have hj : j < l.length := by rw [← e2]; exact (List.getElem?_eq_some_iff.1 hc).1
  have hjc : j < cs.size := by omega
  exact o2 j l[j] c (List.getElem?_eq_getElem hj) hc (h4 j cs[j] l[j] (Array.getElem?_eq_getElem hjc) (List.getElem?_eq_getElem hj)).1

theorem take_sound (h : FR F S own T { s with M := M } a w) {v : Value} {c : V} (hrt : RTV S w T M v c) {Kc : List V → V → Option R} {r : R} (hk : take M c Kc = some r) :
    ∃ own' M' c' fp, FR F S own' T { s with M := M' } a w ∧ Took F S own own' w T M M' fp ∧ OwnV S w v fp c' ∧ Kc M' c' = some r := by
  unfold take at hk
  split at hk
  · rename_i id off
    obtain ⟨hlt, b, hT, rfl⟩ := rtv_pr hrt
    split at hk
    · rename_i l hpl
      split at hk
      · rename_i h0
        subst h0
        obtain ⟨own2, M2, l2, fp, b2, hT2, f2, k2, r2, hk2⟩ := takeObj_sound h hpl hk
        exact ⟨own2, M2, _, fp, f2, k2, by rw [← hT]; exact r2, hk2⟩
      · exact absurd hk (by simp)
    · rename_i l off' hpl
      obtain ⟨h0, b', h1, h2⟩ := FR.place (s := { s with M := M }) h hpl (by simp)
      rw [hT] at h1 h2; cases h1
      exact ⟨own, M, .pv l off, [], h, .nil, ⟨repL_pv_off h2, rfl⟩, hk⟩
    · exact absurd hk (by simp)
  · rename_i l
    obtain ⟨xs, rfl, hlen, hxs⟩ := (show RTA S w T M v (.agg l) from hrt)
    obtain ⟨own2, M2, l2, fps, f2, k2, e2, e3, r2, _, hk2⟩ := takeL_sound l M own xs _ r h hlen (fun j x c hx hc => (hxs j x c hx hc).2) hk
    exact ⟨own2, M2, .agg l2, fps.flatten, f2, k2, ⟨xs, fps, rfl, by omega, by omega, r2, rfl⟩, hk2⟩
  · rename_i n1 n2
    have hrt' : RT S w T M v c := by
      cases c with
      | agg l => exact absurd rfl (n2 l)
      | tup l => simp [take1] at hk
      | _ => exact hrt
    have hnt : ∀ l, c ≠ .tup l := fun l e => by subst e; simp [take1] at hk
    obtain ⟨own', M', c', fp, f, k, rr, _, hk'⟩ := take1_sound h hrt' hk
    refine ⟨own', M', c', fp, f, k, ?_, hk'⟩
    cases c' with
    | agg l => exact absurd rfl (rr.1.not_agg.1 l)
    | pt l => exact absurd rr.1 (fun h => by cases h)
    | _ => exact rr

theorem takeAll_sound : ∀ (l : List V) (M : List V) (own : Nat → Option Nat) (xs : List Value) (Kc : List V → List V → Option R) (r : R), FR F S own T { s with M := M } a w → xs.length = l.length →
    (∀ (j : Nat) x c, xs[j]? = some x → l[j]? = some c → RTV S w T M x c) → takeAll M l Kc = some r →
    ∃ (own' : Nat → Option Nat) (M' l' : List V) (fps : List (List Nat)), FR F S own' T { s with M := M' } a w ∧ Took F S own own' w T M M' fps.flatten ∧ l'.length = l.length ∧ fps.length = l.length ∧ (∀ (j : Nat) x f c, xs[j]? = some x → fps[j]? = some f → l'[j]? = some c → OwnV S w x f c) ∧ Kc M' l' = some r
  | [], M, own, xs, Kc, r, h, _, _, hk => ⟨own, M, [], [], h, .nil, rfl, rfl, fun j x f c _ hf => by simp at hf, hk⟩
  | c :: l, M, own, [], Kc, r, h, hl, _, hk => by simp at hl
  | c :: l, M, own, x :: xs, Kc, r, h, hl, hrt, hk => by
    simp only [takeAll] at hk
    obtain ⟨own1, M1, c1, f1, h1, k1, r1, hk1⟩ := take_sound h (hrt 0 x c rfl rfl) hk
    obtain ⟨own2, M2, l2, fps, h2, k2, e2, e3, r2, hk2⟩ := takeAll_sound l M1 own1 xs _ r h1 (by simpa using hl) (fun j x c hx hc => (hrt (j + 1) x c hx hc).later k1.later) hk1
    refine ⟨own2, M2, c1 :: l2, f1 :: fps, h2, k1.trans k2, by simp [e2], by simp [e3], fun j y f d hy hf hd => ?_, hk2⟩
    cases j with
    | zero => simp at hy hf hd; subst hy hf hd; exact r1
    | succ j => exact r2 j y f d hy hf hd

/-! ### laying -/
structure Laid (F : Fx) (S : Nat → Prop) (own own' : Nat → Option Nat) (w : World) (T T' : Nat → Value) (M M' : List V) (fp : List Nat) : Prop where
  later : Later S S w w T T' M M'
  hown : ∀ b, b ∉ fp → own' b = own b
  pl : ∀ id, id < M.length → pl M' id = pl M id
theorem Laid.nil : Laid F S own own w T T M M [] := ⟨.refl, fun _ _ => rfl, fun _ _ => rfl⟩
theorem Laid.trans {o1 o2 o3 : Nat → Option Nat} {T1 T2 T3 : Nat → Value} {M1 M2 M3 : List V} {f1 f2 : List Nat} (h : Laid F S o1 o2 w T1 T2 M1 M2 f1) (k : Laid F S o2 o3 w T2 T3 M2 M3 f2) : Laid F S o1 o3 w T1 T3 M1 M3 (f1 ++ f2) :=
  ⟨h.later.trans k.later, fun b hb => (k.hown b (fun h' => hb (List.mem_append.2 (.inr h')))).trans (h.hown b (fun h' => hb (List.mem_append.2 (.inl h')))),
    fun id hid => (k.pl id (Nat.lt_of_lt_of_le hid h.later.hM)).trans (h.pl id hid)⟩
theorem Free.append_left {f1 f2 : List Nat} (h : Free F S own w (f1 ++ f2)) : Free F S own w f1 := ⟨(List.nodup_append.1 h.1).1, fun b hb => h.2 b (List.mem_append.2 (.inl hb))⟩
theorem Free.append_right {f1 f2 : List Nat} (h : Free F S own w (f1 ++ f2)) (ho : ∀ b, b ∉ f1 → own' b = own b) : Free F S own' w f2 :=
  ⟨(List.nodup_append.1 h.1).2.1, fun b hb => by
    obtain ⟨h1, h2, h3, h4⟩ := h.2 b (List.mem_append.2 (.inr hb))
    refine ⟨h1, h2, h3, ?_⟩
    rw [ho b (fun h' => (List.nodup_append.1 h.1).2.2 b h' b hb rfl)]
    exact h4⟩

theorem lay1_sound (h : FR F S own T { s with M := M } a w) {v : Value} {c : V} {fp : List Nat} (ho : OwnL S w v fp c) (hf : Free F S own w fp) :
    ∃ own' T', FR F S own' T' { s with M := (lay1 M c).1 } a w ∧ Laid F S own own' w T T' M (lay1 M c).1 fp ∧ (lay1 M c).2 ≠ .dead ∧ RT S w T' (lay1 M c).1 v (lay1 M c).2 ∧ (okP c = true → okCell (lay1 M c).2 = true) := by
  have plain : RepL S w v c ∧ fp = [] → (∀ ar, c ≠ .sl true ar) → ∃ own' T', FR F S own' T' { s with M := M } a w ∧ Laid F S own own' w T T' M M fp ∧ c ≠ .dead ∧ RT S w T' M v c ∧ (okP c = true → okCell c = true) := by
    rintro ⟨hr, rfl⟩ hn
    exact ⟨own, T, h, .nil, hr.not_agg.2.2, .of_rep hr, fun hc => by
      cases c with
      | sl o ar =>
        cases o with
        | true => exact absurd rfl (hn ar)
        | false => rfl
      | _ => exact hc⟩
  cases c with
  | sl o ar =>
    cases o with
    | false => exact plain ho (by simp)
    | true =>
      obtain ⟨hO, rfl⟩ := ho
      obtain ⟨own', T', f, hT, _, L, hown'⟩ := FR.newPlace (s := { s with M := M }) (w' := w) h v (.sl true ar) v.ownBlock (fun _ _ _ => rfl) (Nat.le_refl _) ⟨rfl, rfl, rfl⟩
        (fun b hb => by
          obtain ⟨h1, h2, h3, h4⟩ := hf.2 b (by rw [hb]; simp)
          exact ⟨h1, fun _ => ⟨h2, h3, h4⟩⟩)
        (fun own' T' ho hT _ _ => ⟨by rw [hT]; exact hO, fun b hb => ho b (by rw [hT] at hb; exact hb)⟩)
      refine ⟨own', T', f, ⟨L, fun b hb => ?_, fun id hid => ?_⟩, by simp [lay1], ⟨by simp [lay1], hT.symm, ?_⟩, fun _ => rfl⟩
      · rw [hown' b, if_neg]
        intro e
        exact hb (by rw [e]; simp)
      · simp only [lay1]
        rw [pl_push, if_neg (by omega)]
      · obtain ⟨_, ⟨e, xs, hown, _⟩, _⟩ := hO
        rcases hown.2 with ⟨rfl, _⟩ | ⟨g, cap, cur, rfl, _⟩ <;> rfl
  | _ => exact plain ho (by simp)

theorem layL_sound : ∀ (l : List V) (M : List V) (own : Nat → Option Nat) (T : Nat → Value) (xs : List Value) (fps : List (List Nat)), FR F S own T { s with M := M } a w → xs.length = l.length → fps.length = l.length →
    (∀ (j : Nat) x f c, xs[j]? = some x → fps[j]? = some f → l[j]? = some c → OwnL S w x f c) → Free F S own w fps.flatten →
    ∃ own' T', FR F S own' T' { s with M := (layL M l).1 } a w ∧ Laid F S own own' w T T' M (layL M l).1 fps.flatten ∧ (layL M l).2.length = l.length ∧
      (∀ (j : Nat) x c, xs[j]? = some x → (layL M l).2[j]? = some c → c ≠ .dead ∧ RT S w T' (layL M l).1 x c) ∧ (∀ (j : Nat) c c', l[j]? = some c → (layL M l).2[j]? = some c' → okP c = true → okCell c' = true)
  | [], M, own, T, xs, fps, h, _, hf, _, _ => by
    have : fps = [] := List.eq_nil_of_length_eq_zero (by simpa using hf)
    subst this
    exact ⟨own, T, h, .nil, rfl, fun j x c _ hc => by simp [layL] at hc, fun j c c' hc => by simp at hc⟩
  | c :: l, M, own, T, [], fps, h, hl, _, _, _ => by simp at hl
  | c :: l, M, own, T, x :: xs, [], h, _, hl, _, _ => by simp at hl
  | c :: l, M, own, T, x :: xs, f :: fps, h, hl, hl2, ho, hfree => by
    have hfree : Free F S own w (f ++ fps.flatten) := hfree
    obtain ⟨own1, T1, h1, k1, d1, r1, o1⟩ := lay1_sound h (ho 0 x f c rfl rfl rfl) hfree.append_left
    obtain ⟨own2, T2, h2, k2, e2, r2, o2⟩ := layL_sound l (lay1 M c).1 own1 T1 xs fps h1 (by simpa using hl) (by simpa using hl2) (fun j x f c hx hf hc => ho (j + 1) x f c hx hf hc) (hfree.append_right k1.hown)
    refine ⟨own2, T2, h2, k1.trans k2, by simp [layL, e2], fun j y d hy hd => ?_, fun j d d' hd hd' => ?_⟩
    · cases j with
      | zero =>
        simp only [layL, List.getElem?_cons_zero, Option.some.injEq] at hy hd
        subst hy hd
        exact ⟨d1, r1.later k2.later⟩
      | succ j => exact r2 j y d hy (by simpa [layL] using hd)
    · cases j with
      | zero =>
        simp only [layL, List.getElem?_cons_zero, Option.some.injEq] at hd hd'
        subst hd hd'
        exact o1
      | succ j => exact o2 j d d' hd (by simpa [layL] using hd')

theorem okCell_of_rt {v : Value} {c : V} (h : RT S w T M v c) (hd : c ≠ .dead) (hn : c ≠ .nils) (he : ∀ id i off, c ≠ .er id i off) : okCell c = true := by
  cases c with
  | er id i off => exact absurd rfl (he id i off)
  | dead => exact absurd rfl hd
  | nils => exact absurd rfl hn
  | sl o ar =>
    cases o with
    | true => exact absurd (show RepL S w v (.sl true ar) from h) (fun h => by cases h)
    | false => rfl
  | agg l => exact absurd (show RepL S w v (.agg l) from h) (fun h => by cases h)
  | tup l => exact absurd (show RepL S w v (.tup l) from h) (fun h => by cases h)
  | pt l => exact absurd (show RepL S w v (.pt l) from h) (fun h => by cases h)
  | _ => rfl
end
end Go.Proofs.Ytfkkigbbejhfbaa.Idl
