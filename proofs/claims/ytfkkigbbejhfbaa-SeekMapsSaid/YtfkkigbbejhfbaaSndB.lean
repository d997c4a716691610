/- Soundness of the interpreter, second half: calls, code, loops over functions, bodies, orders. -/
import Derived.Test.YtfkkigbbejhfbaaSndA
import Derived.Tactics
import Derived.Orders
/- Results, laid into places; objects that come back. -/
namespace Go.Proofs.Ytfkkigbbejhfbaa.Idl
open Go
variable {P : Program}
section
variable {F : Fx} {S S' : Nat → Prop} {own own' : Nat → Option Nat} {T T' : Nat → Value} {s : St} {a : Act} {w w' : World} {M M' : List V} {R : Type}

theorem lay_sound (h : FR F S own T { s with M := M } a w) {v : Value} {c : V} {fp : List Nat} (ho : OwnV S w v fp c) (hf : Free F S own w fp) :
    ∃ own' T', FR F S own' T' { s with M := (lay M c).1 } a w ∧ Laid F S own own' w T T' M (lay M c).1 fp ∧ RTA S w T' (lay M c).1 v (lay M c).2 ∧ (∀ l, (lay M c).2 ≠ .tup l) := by
  have leaf : OwnL S w v fp c → (∀ l, c ≠ .agg l) → (∀ l, c ≠ .pt l) → lay M c = lay1 M c → ∃ own' T', FR F S own' T' { s with M := (lay M c).1 } a w ∧ Laid F S own own' w T T' M (lay M c).1 fp ∧ RTA S w T' (lay M c).1 v (lay M c).2 ∧ (∀ l, (lay M c).2 ≠ .tup l) := by
    intro ho hna hnp e
    rw [e]
    obtain ⟨own', T', f, k, d, rr, _⟩ := lay1_sound h ho hf
    have hc : (∀ l, (lay1 M c).2 ≠ .agg l) ∧ (∀ l, (lay1 M c).2 ≠ .tup l) := by
      cases c with
      | sl o ar => cases o <;> simp [lay1]
      | agg l => exact absurd rfl (hna l)
      | tup l => exact absurd ho.1 (fun h => by cases h)
      | _ => simp [lay1]
    exact ⟨own', T', f, k, .of_rt rr hc.1, hc.2⟩
  cases c with
  | agg l =>
    obtain ⟨cs, fps, rfl, h1, h2, h3, rfl⟩ := ho
    obtain ⟨own', T', f, k, e, rr, _⟩ := layL_sound l M own T cs fps h h1 h2 h3 hf
    exact ⟨own', T', f, k, ⟨cs, rfl, by simp [e, h1], rr⟩, by simp [lay]⟩
  | pt l =>
    obtain ⟨b, cs, e, fps, rfl, h0, h1, h2, h3, rfl, h4⟩ := ho
    have hf2 : Free F S own w ([b] ++ fps.flatten) := hf
    obtain ⟨own1, T1, f1, k1, e1, r1, o1⟩ := layL_sound l M own T cs fps h h1 h2 h3 (hf2.append_right (fun _ _ => rfl))
    have hb := hf.2 b (by simp)
    have hown1 : own1 b = none := by
      rw [k1.hown b (fun hm => (List.nodup_cons.1 hf.1).1 hm)]
      exact hb.2.2.2
    have okc : ∀ (j : Nat) c, (layL M l).2[j]? = some c → okCell c = true := by
      intro j c hc
      have hj : j < l.length := by rw [← e1]; exact (List.getElem?_eq_some_iff.1 hc).1
      exact o1 j l[j] c (List.getElem?_eq_getElem hj) hc (h4 j l[j] (List.getElem?_eq_getElem hj))
    obtain ⟨own2, T2, f2, hT2, hTo, L2, hown2⟩ := FR.newPlace (s := { s with M := (layL M l).1 }) (w' := w) f1 (.pointer (some ⟨b, 0, none⟩)) (.pt (layL M l).2) (some b) (fun _ _ _ => rfl) (Nat.le_refl _) ⟨rfl, rfl, rfl⟩
      (fun b' hb' => by cases hb'; exact ⟨hb.1, fun _ => ⟨hb.2.1, hb.2.2.1, hown1⟩⟩)
      (fun own' T' ho hT _ L => ⟨b, cs.toArray, e, hT, h0, by simp [h1, e1], fun j x c hx hc => ⟨okc j c hc, ((r1 j x c (by simpa using hx) hc).2).later L⟩, ho b rfl⟩)
    refine ⟨own2, T2, f2, ⟨k1.later.trans L2, fun b' hb' => ?_, fun id hid => ?_⟩, ?_, by simp [lay]⟩
    · rw [hown2 b', if_neg (by intro e'; cases e'; exact hb' (by simp)), k1.hown b' (fun hm => hb' (by simp [hm]))]
    · simp only [lay]
      rw [pl_push, if_neg (by have := k1.later.hM; omega), k1.pl id hid]
    · exact ⟨by simp [lay], b, hT2, rfl⟩
  | sl o ar => exact leaf ho (by simp) (by simp) rfl
  | _ => exact leaf ho (by simp) (by simp) rfl

theorem layAll_sound : ∀ (l : List V) (M : List V) (own : Nat → Option Nat) (T : Nat → Value) (xs : List Value) (fps : List (List Nat)), FR F S own T { s with M := M } a w → xs.length = l.length → fps.length = l.length →
    (∀ (j : Nat) x f c, xs[j]? = some x → fps[j]? = some f → l[j]? = some c → OwnV S w x f c) → Free F S own w fps.flatten →
    ∃ own' T', FR F S own' T' { s with M := (layAll M l).1 } a w ∧ Laid F S own own' w T T' M (layAll M l).1 fps.flatten ∧ (layAll M l).2.length = l.length ∧
      (∀ (j : Nat) x c, xs[j]? = some x → (layAll M l).2[j]? = some c → RTA S w T' (layAll M l).1 x c)
  | [], M, own, T, xs, fps, h, _, hf, _, _ => by
    have : fps = [] := List.eq_nil_of_length_eq_zero (by simpa using hf)
    subst this
    exact ⟨own, T, h, .nil, rfl, fun j x c _ hc => by simp [layAll] at hc⟩
  | c :: l, M, own, T, [], fps, h, hl, _, _, _ => by simp at hl
  | c :: l, M, own, T, x :: xs, [], h, _, hl, _, _ => by simp at hl
  | c :: l, M, own, T, x :: xs, f :: fps, h, hl, hl2, ho, hfree => by
    have hfree : Free F S own w (f ++ fps.flatten) := hfree
    obtain ⟨own1, T1, h1, k1, r1, _⟩ := lay_sound h (ho 0 x f c rfl rfl rfl) hfree.append_left
    obtain ⟨own2, T2, h2, k2, e2, r2⟩ := layAll_sound l (lay M c).1 own1 T1 xs fps h1 (by simpa using hl) (by simpa using hl2) (fun j x f c hx hf hc => ho (j + 1) x f c hx hf hc) (hfree.append_right k1.hown)
    refine ⟨own2, T2, h2, k1.trans k2, by simp [layAll, e2], fun j y d hy hd => ?_⟩
    cases j with
    | zero =>
      simp only [layAll, List.getElem?_cons_zero, Option.some.injEq] at hy hd
      subst hy hd
      exact r1.later k2.later
    | succ j => exact r2 j y d hy (by simpa [layAll] using hd)

theorem layRes_sound (h : FR F S own T { s with M := M } a w) {v : Value} {c : V} {fp : List Nat} (ho : OwnT S w v fp c) (hf : Free F S own w fp) :
    ∃ own' T', FR F S own' T' { s with M := (layRes M c).1 } a w ∧ RTV S w T' (layRes M c).1 v (layRes M c).2 := by
  by_cases ht : ∃ l, c = .tup l
  · obtain ⟨l, rfl⟩ := ht
    obtain ⟨cs, fps, rfl, h1, h2, h3, rfl⟩ := ho
    obtain ⟨own', T', f, k, e, rr⟩ := layAll_sound l M own T cs fps h h1 h2 h3 hf
    exact ⟨own', T', f, cs, rfl, by simp [e, h1], rr⟩
  · have hn : ∀ l, c ≠ .tup l := fun l e => ht ⟨l, e⟩
    rw [ownt_eq hn] at ho
    have e : layRes M c = lay M c := by
      cases c with
      | tup l => exact absurd rfl (hn l)
      | _ => rfl
    rw [e]
    obtain ⟨own', T', f, k, rr, hnt⟩ := lay_sound h ho hf
    exact ⟨own', T', f, .of_rta rr hnt⟩

/-- one object comes back -/
theorem back1_sound (h : FR F S own T { s with M := M } a w) {id : Nat} {l : List V} {fp : List Nat} (hid : id < M.length) (ho : OwnV S w (T id) fp (.pt l)) (hf : Free F S own w fp) :
    ∃ own' T', FR F S own' T' { s with M := (layL M l).1.set id (.pt (layL M l).2) } a w ∧ (∀ b, b ∉ fp → own' b = own b) ∧ (∀ j, j < M.length → T' j = T j) ∧ M.length ≤ ((layL M l).1.set id (.pt (layL M l).2)).length := by
  obtain ⟨b, cs, e, fps, hT, h0, h1, h2, h3, rfl, h4⟩ := ho
  have hf2 : Free F S own w ([b] ++ fps.flatten) := hf
  obtain ⟨own1, T1, f1, k1, e1, r1, o1⟩ := layL_sound l M own T cs fps h h1 h2 h3 (hf2.append_right (fun _ _ => rfl))
  have hb := hf.2 b (by simp)
  have hown1 : own1 b = none := by
    rw [k1.hown b (fun hm => (List.nodup_cons.1 hf.1).1 hm)]
    exact hb.2.2.2
  have okc : ∀ (j : Nat) c, (layL M l).2[j]? = some c → okCell c = true := by
    intro j c hc
    have hj : j < l.length := by rw [← e1]; exact (List.getElem?_eq_some_iff.1 hc).1
    exact o1 j l[j] c (List.getElem?_eq_getElem hj) hc (h4 j l[j] (List.getElem?_eq_getElem hj))
  have hid1 : id < (layL M l).1.length := Nat.lt_of_lt_of_le hid k1.later.hM
  let own2 : Nat → Option Nat := fun b' => if b' = b then some id else own1 b'
  have L : Later S S w w T1 T1 (layL M l).1 ((layL M l).1.set id (.pt (layL M l).2)) := ⟨fun _ h => h, fun _ _ => rfl, fun _ _ => rfl, by simp, fun j o ar _ hp => by
    rw [pl_set] at hp
    split at hp
    · cases hp
    · exact ⟨o, ar, hp, rfl, rfl⟩⟩
  refine ⟨own2, T1, FR.change (s := { s with M := (layL M l).1 }) f1 L (fun j c hc => ?_) (fun b' j hb' => ?_) (fun b' hb' => f1.slt b' hb') (fun _ _ => rfl) (Nat.le_refl _) ⟨rfl, rfl, rfl⟩ (fun _ hb => .inl hb), fun b' hb' => ?_, fun j hj => k1.later.hT j hj, by simpa using k1.later.hM⟩
  · by_cases hj : j = id
    · subst hj
      rw [List.getElem?_set_self hid1] at hc
      cases hc
      exact ⟨b, cs.toArray, e, by rw [k1.later.hT _ hid]; exact hT, h0, by simp [h1, e1], fun j x c hx hc => ⟨okc j c hc, ((r1 j x c (by simpa using hx) hc).2).later L⟩, by simp [own2]⟩
    · rw [List.getElem?_set_ne (Ne.symm hj)] at hc
      refine (f1.places j c hc).later L (List.getElem?_eq_some_iff.1 hc).1 (fun b' hb' => ⟨?_, rfl⟩)
      have : b' ≠ b := by rintro rfl; rw [hown1] at hb'; cases hb'
      simp [own2, this, hb']
  · by_cases hbb : b' = b
    · subst hbb
      simp only [own2, if_true, Option.some.injEq] at hb'
      subst hb'
      exact ⟨hb.1, hb.2.1, hb.2.2.1, by simpa using hid1⟩
    · simp only [own2, if_neg hbb] at hb'
      obtain ⟨h1, h2, h3, h4⟩ := f1.own b' j hb'
      exact ⟨h1, h2, h3, by simpa using h4⟩
  · have : b' ≠ b := by rintro rfl; exact hb' (by simp)
    simp only [own2, if_neg this]
    exact k1.hown b' (fun hm => hb' (by simp [hm]))

theorem backAll_sound : ∀ (ids : List Nat) (outs : List V) (M : List V) (own : Nat → Option Nat) (T : Nat → Value) (ofps : List (List Nat)) (fp : List Nat) (Kc : List V → Option R) (r : R), FR F S own T { s with M := M } a w →
    (∀ id, id ∈ ids → id < M.length) → OwnVs S w (ids.map T) ofps outs → Free F S own w (ofps.flatten ++ fp) → backAll M ids outs Kc = some r →
    ∃ own' T' M', FR F S own' T' { s with M := M' } a w ∧ Free F S own' w fp ∧ Kc M' = some r
  | [], [], M, own, T, ofps, fp, Kc, r, h, _, ho, hf, hk => by
    have : ofps = [] := List.eq_nil_of_length_eq_zero (by simpa using ho.2.1)
    subst this
    exact ⟨own, T, M, h, by simpa using hf, hk⟩
  | [], _ :: _, M, own, T, ofps, fp, Kc, r, h, _, ho, hf, hk => by simp [backAll] at hk
  | id :: ids, [], M, own, T, ofps, fp, Kc, r, h, _, ho, hf, hk => by simp [backAll] at hk
  | id :: ids, c :: outs, M, own, T, [], fp, Kc, r, h, _, ho, hf, hk => by have := ho.2.1; simp at this
  | id :: ids, c :: outs, M, own, T, f :: ofps, fp, Kc, r, h, hid, ho, hf, hk => by
    cases c with
    | pt l =>
      simp only [backAll] at hk
      have hf2 : Free F S own w (f ++ (ofps.flatten ++ fp)) := by rw [← List.append_assoc]; exact hf
      obtain ⟨own1, T1, f1, ho1, hT1, hM1⟩ := back1_sound h (hid id (by simp)) (ho.2.2 0 (T id) f (.pt l) rfl rfl rfl) hf2.append_left
      refine backAll_sound ids outs _ own1 T1 ofps fp Kc r f1 (fun j hj => Nat.lt_of_lt_of_le (hid j (by simp [hj])) hM1) ?_ (hf2.append_right ho1) hk
      have hmap : ids.map T1 = ids.map T := List.map_congr_left (fun j hj => hT1 j (hid j (by simp [hj])))
      rw [hmap]
      refine ⟨by have := ho.1; simpa using this, by have := ho.2.1; simpa using this, fun j x f c hx hf hc => ho.2.2 (j + 1) x f c hx hf hc⟩
    | _ => simp [backAll] at hk
end
end Go.Proofs.Ytfkkigbbejhfbaa.Idl
/- Calls: the caller's side. -/
namespace Go.Proofs.Ytfkkigbbejhfbaa.Idl
open Go
variable {P : Program}
section
variable {F : Fx} {S S' Sa Sb : Nat → Prop} {own own' : Nat → Option Nat} {T T' : Nat → Value} {s : St} {a : Act} {w w' : World} {M M' : List V} {R : Type}

/-! ### places are given up before the call -/
theorem freeze_keep : ∀ (ids : List Nat) (M : List V) (id : Nat) (ar : Arr V), pl M id = .sl false ar → pl (freezeIds M ids) id = .sl false ar
  | [], M, id, ar, h => h
  | j :: ids, M, id, ar, h => by
    simp only [freezeIds]
    apply freeze_keep ids
    split
    · rename_i o a' hp
      rw [pl_set]
      split
      · rename_i hj
        rw [← hj.1] at hp
        rw [h] at hp; cases hp; rfl
      · exact h
    · exact h
theorem freeze_pl : ∀ (ids : List Nat) (M : List V) (id : Nat) (o : Bool) (ar : Arr V), pl M id = .sl o ar → id ∈ ids → pl (freezeIds M ids) id = .sl false ar
  | [], M, id, o, ar, h, hm => by simp at hm
  | j :: ids, M, id, o, ar, h, hm => by
    simp only [freezeIds]
    by_cases hj : j = id
    · subst hj
      apply freeze_keep ids
      rw [h]
      simp only
      rw [pl_set, if_pos ⟨rfl, pl_lt h (by simp)⟩]
    · apply freeze_pl ids _ id o ar
      · split
        · rw [pl_set, if_neg (by intro e; exact hj e.1.symm)]; exact h
        · exact h
      · simp only [List.mem_cons] at hm
        rcases hm with hm | hm
        · exact absurd hm.symm hj
        · exact hm
theorem freezeIds_sound : ∀ (ids : List Nat) (M : List V) (S : Nat → Prop) (own : Nat → Option Nat), FR F S own T { s with M := M } a w →
    ∃ S' own', FR F S' own' T { s with M := freezeIds M ids } a w ∧ Sunk F S S' own own' w T M (freezeIds M ids)
  | [], M, S, own, h => ⟨S, own, h, .refl⟩
  | id :: ids, M, S, own, h => by
    simp only [freezeIds]
    split
    · rename_i o ar hpl
      have hP := FR.place (s := { s with M := M }) h hpl (by simp)
      have hlt := pl_lt hpl (by simp)
      have hsl : ∀ o' ar', V.sl false ar = .sl o' ar' → ∃ o'' a', pl M id = .sl o'' a' ∧ a'.esz = ar'.esz ∧ a'.len = ar'.len := by
        intro o' ar' e
        cases e
        exact ⟨o, ar, hpl, rfl, rfl⟩
      have hrep : RepL (plus S True own id) w (T id) (.sl false ar) := by
        cases o with
        | false => exact RepL.mono (fun b hb => .inl hb) (fun _ _ => rfl) hP
        | true => exact (hP.1.mono (S' := plus S True own id) (fun b hb => .inl hb) (fun _ _ => rfl) (fun _ _ => rfl)).share (fun b hb => .inr ⟨trivial, hP.2 b hb⟩)
      obtain ⟨S2, own2, f2, k2⟩ := freezeIds_sound ids (M.set id (.sl false ar)) _ _ (FR.drop (s := { s with M := M }) h id True (.sl false ar) hlt hsl hrep)
      exact ⟨S2, own2, f2, (FR.drop_sunk (s := { s with M := M }) h id True _ hsl (by simp)).trans k2⟩
    · exact freezeIds_sound ids M S own h
theorem Free.sunk {fp : List Nat} (k : Sunk F S S' own own' w T M M') (h : Free F S own w fp) : Free F S' own' w fp := ⟨h.1, fun b hb => by
  obtain ⟨h1, h2, h3, h4⟩ := h.2 b hb
  refine ⟨h1, fun hs => ?_, h3, ?_⟩
  · rcases k.new b hs with h' | ⟨id, h'⟩
    · exact h2 h'
    · rw [h4] at h'; cases h'
  · cases e : own' b with
    | none => rfl
    | some id => have := k.hown b id e; rw [h4] at this; cases this⟩

/-! ### the way through a call -/
theorem FR.called (h : FR F S own T { s with M := M } a w) {S3 : Nat → Prop} {fp rfp : List Nat} {ofps : List (List Nat)} {v : Value} {res : V} {ovs : List Value} {outs : List V} (hc : CallPost Sa Sb w w' fp v res rfp ovs outs ofps)
    (hfree : Free F S own w fp) (h13 : ∀ b, S b → S3 b) (h32 : ∀ b, S3 b → Sb b) (hs3 : ∀ b, S3 b → S b ∨ w.heap.size ≤ b ∨ b ∈ fp) :
    FR F S3 own T { s with M := M } a w' ∧ Free F S3 own w' (ofps.flatten ++ rfp) ∧ Later S S3 w w' T T M M := by
  have hsame : ∀ b, b < w.heap.size → (S b ∨ F.K b ∨ ∃ id, own b = some id) → w'.heap[b]? = w.heap[b]? := by
    intro b hb hx
    refine hc.keep b hb (fun hm => ?_)
    obtain ⟨_, h2, h3, h4⟩ := hfree.2 b hm
    rcases hx with hx | hx | ⟨id, hx⟩
    · exact h2 hx
    · exact h3 hx
    · rw [h4] at hx; cases hx
  have hK : ∀ b, F.K b → b < w.heap.size := fun b hb => Nat.lt_of_lt_of_le (h.keep b hb).1 h.size
  have L : Later S S3 w w' T T M M := ⟨h13, fun b hb => hsame b (h.slt b hb) (.inl hb), fun _ _ => rfl, Nat.le_refl _, fun _ o a _ h => ⟨o, a, h, rfl, rfl⟩⟩
  have nK : ∀ b, w.heap.size ≤ b ∨ b ∈ fp → ¬ F.K b := by
    rintro b (hb | hb) hk
    · have := hK b hk; omega
    · exact (hfree.2 b hb).2.2.1 hk
  have nown : ∀ b, w.heap.size ≤ b ∨ b ∈ fp → own b = none := by
    rintro b (hb | hb)
    · cases e : own b with
      | none => rfl
      | some id => have := (h.own b id e).1; omega
    · exact (hfree.2 b hb).2.2.2
  refine ⟨FR.change (s := { s with M := M }) h L (fun id c hc' => ?_) (fun b id hb => ?_) (fun b hb => hc.slt b (h32 b hb)) (fun b hb => hsame b (hK b hb) (.inr (.inl hb))) hc.size hc.out (fun b hb => ?_), ⟨?_, fun b hb => ?_⟩, L⟩
  · exact (h.places id c hc').later L (List.getElem?_eq_some_iff.1 hc').1 (fun b hb => ⟨hb, hsame b (h.own b id hb).1 (.inr (.inr ⟨id, hb⟩))⟩)
  · obtain ⟨h1, h2, h3, h4⟩ := h.own b id hb
    refine ⟨Nat.lt_of_lt_of_le h1 hc.size, fun hs => ?_, h3, h4⟩
    rcases hs3 b hs with h' | h'
    · exact h2 h'
    · rw [nown b h'] at hb; cases hb
  · rcases hs3 b hb with h' | h'
    · exact .inl h'
    · exact .inr (nK b h')
  · have := hc.nodup
    rw [List.nodup_append] at this ⊢
    exact ⟨this.2.1, this.1, fun x hx y hy e => this.2.2 y hy x hx e.symm⟩
  · obtain ⟨h1, h2, h3⟩ := hc.free b (by rw [List.mem_append] at hb ⊢; exact hb.symm)
    exact ⟨h1, fun hs => h2 (h32 b hs), nK b h3, nown b h3⟩

theorem call_core (h : FR F S own T { s with M := M } a w) {g : Nat} {args : List V} {res : V} {outs : List V} (hg : CallOK P g args res outs) (_hSa : ∀ b, S b → Sa b) (hSa' : ∀ b, Sa b → S b ∨ own b ≠ none)
    {vs : List Value} {fps : List (List Nat)} (ho : OwnVs Sa w vs fps args) (hf : Free F S own w fps.flatten) :
    Calls P g vs.toArray w fun e w' => ∃ v Sb rfp ofps, e = .returned v ∧ CallPost Sa Sb w w' fps.flatten v res rfp (ptVals vs args) outs ofps := by
  refine (hg Sa w vs fps (fun b hb => ?_) ho hf.1 (fun b hb => ?_)).mono ?_
  · rcases hSa' b hb with h' | h'
    · exact h.slt b h'
    · cases e : own b with
      | none => exact absurd e h'
      | some id => exact (h.own b id e).1
  · obtain ⟨h1, h2, _, h4⟩ := hf.2 b hb
    refine ⟨h1, fun hs => ?_⟩
    rcases hSa' b hs with h' | h'
    · exact h2 h'
    · exact h' h4
  · rintro e w' ⟨v, Sb, rfp, ofps, h1, h2⟩
    exact ⟨v, Sb, rfp, ofps, h1, h2⟩

/-! ### shapes of results -/
def Gr (c : V) : Prop := ∀ (S S' : Nat → Prop) (w w' : World) (v : Value) (fp : List Nat), OwnT S w v fp c → OwnT S' w' v fp c
def GrL (c : V) : Prop := (∀ (S S' : Nat → Prop) (w w' : World) (v : Value) (fp : List Nat), OwnL S w v fp c → OwnL S' w' v fp c) ∧ (∀ M, lay1 M c = (M, c)) ∧ (∀ l, c ≠ .agg l) ∧ (∀ l, c ≠ .pt l) ∧ (∀ l, c ≠ .tup l)
def GrA (c : V) : Prop := (∀ (S S' : Nat → Prop) (w w' : World) (v : Value) (fp : List Nat), OwnV S w v fp c → OwnV S' w' v fp c) ∧ (∀ M, lay M c = (M, c)) ∧ (∀ l, c ≠ .tup l)

theorem grl_int (k : IntKind) (n : Int) : GrL (.int k n) := ⟨fun S S' w w' v fp h => by obtain ⟨h1, h2⟩ := h; cases h1; exact ⟨.int k n, h2⟩, fun _ => rfl, by simp, by simp, by simp⟩
theorem grl_bool (b : Bool) : GrL (.bool b) := ⟨fun S S' w w' v fp h => by obtain ⟨h1, h2⟩ := h; cases h1; exact ⟨.bool b, h2⟩, fun _ => rfl, by simp, by simp, by simp⟩
theorem grl_str (b : ByteArray) : GrL (.str b) := ⟨fun S S' w w' v fp h => by obtain ⟨h1, h2⟩ := h; cases h1; exact ⟨.str b, h2⟩, fun _ => rfl, by simp, by simp, by simp⟩

theorem SL.chk_ground {l : SL} {v : V} {K : V → Option R} {r : R} (h : l.chk v K = some r) (hg : l.ground = true) : GrL v := by
  cases l with
  | any => simp [SL.ground] at hg
  | int k => obtain ⟨n, rfl, _⟩ := asInt_eq h; exact grl_int _ _
  | bool => obtain ⟨n, rfl, _⟩ := asBool_eq h; exact grl_bool _
  | str => obtain ⟨n, rfl, _⟩ := asStr_eq h; exact grl_str _
  | sl o e => simp [SL.ground] at hg
theorem chkL_ground : ∀ {l : List SL} {vs : List V} {K : List V → Option R} {r : R}, chkL l vs K = some r → l.all SL.ground = true → ∀ v, v ∈ vs → GrL v
  | [], [], _, _, _, _ => by simp
  | [], _ :: _, _, _, h, _ => by simp [chkL, seeCons, seeNil] at h
  | _ :: _, [], _, _, h, _ => by simp [chkL, seeCons, seeNil] at h
  | l :: ls, v :: vs, K, r, h, hg => by
    simp only [chkL, seeCons, seeNil] at h
    simp only [List.all_cons, Bool.and_eq_true] at hg
    intro u hu
    rcases List.mem_cons.1 hu with rfl | hu
    · exact SL.chk_ground h hg.1
    · exact chkL_ground (l := ls) (K := fun vs' => K (v :: vs')) (SL.chk_eq h) hg.2 u hu
theorem GrL.toA {c : V} (h : GrL c) : GrA c := by
  obtain ⟨h1, h2, h3, h4, h5⟩ := h
  refine ⟨fun S S' w w' v fp ho => ?_, fun M => ?_, h5⟩
  · rw [ownv_eq h4 h3] at ho ⊢
    exact h1 S S' w w' v fp ho
  · have e : lay M c = lay1 M c := by
      cases c with
      | agg l => exact absurd rfl (h3 l)
      | pt l => exact absurd rfl (h4 l)
      | _ => rfl
    rw [e, h2]
theorem layL_id : ∀ (l : List V) (M : List V), (∀ c, c ∈ l → lay1 M c = (M, c)) → layL M l = (M, l)
  | [], M, _ => rfl
  | c :: l, M, h => by
    have h1 := h c (by simp)
    have h2 := layL_id l M (fun c hc => h c (by simp [hc]))
    simp [layL, h1, h2]
theorem layAll_id : ∀ (l : List V) (M : List V), (∀ c, c ∈ l → lay M c = (M, c)) → layAll M l = (M, l)
  | [], M, _ => rfl
  | c :: l, M, h => by
    have h1 := h c (by simp)
    have h2 := layAll_id l M (fun c hc => h c (by simp [hc]))
    simp [layAll, h1, h2]
theorem S1.chk_ground {l : S1} {v : V} {K : V → Option R} {r : R} (h : l.chk v K = some r) (hg : l.ground = true) : GrA v := by
  cases l with
  | leaf s => exact (SL.chk_ground h hg).toA
  | agg l =>
    simp only [S1.chk, V.asAgg] at h
    split at h
    · rename_i vs
      have hall := chkL_ground h hg
      refine ⟨fun S S' w w' v fp ho => ?_, fun M => ?_, by simp⟩
      · obtain ⟨cs, fps, h1, h2, h3, h4, h5⟩ := ho
        exact ⟨cs, fps, h1, h2, h3, fun j x f c hx hf hc => (hall c (List.mem_of_getElem? hc)).1 S S' w w' x f (h4 j x f c hx hf hc), h5⟩
      · simp [lay, layL_id vs M (fun c hc => (hall c hc).2.1 M)]
    · exact absurd h (by simp)
  | pt l => simp [S1.ground] at hg
  | pv l => simp [S1.ground] at hg
  | fnp f l => simp [S1.ground] at hg
  | pvn l => simp [S1.ground] at hg
theorem chkL1_ground : ∀ {l : List S1} {vs : List V} {K : List V → Option R} {r : R}, chkL1 l vs K = some r → l.all S1.ground = true → ∀ v, v ∈ vs → GrA v
  | [], [], _, _, _, _ => by simp
  | [], _ :: _, _, _, h, _ => by simp [chkL1, seeCons, seeNil] at h
  | _ :: _, [], _, _, h, _ => by simp [chkL1, seeCons, seeNil] at h
  | l :: ls, v :: vs, K, r, h, hg => by
    simp only [chkL1, seeCons, seeNil] at h
    simp only [List.all_cons, Bool.and_eq_true] at hg
    intro u hu
    rcases List.mem_cons.1 hu with rfl | hu
    · exact S1.chk_ground h hg.1
    · exact chkL1_ground (l := ls) (K := fun vs' => K (v :: vs')) (S1.chk_eq h) hg.2 u hu
theorem Sh.chk_ground {l : Sh} {v : V} {K : V → Option R} {r : R} (h : l.chk v K = some r) (hg : l.ground = true) : Gr v := by
  cases l with
  | one s =>
    obtain ⟨h1, _, h3⟩ := S1.chk_ground h hg
    intro S S' w w' x fp ho
    rw [ownt_eq h3] at ho ⊢
    exact h1 S S' w w' x fp ho
  | tup l =>
    simp only [Sh.chk, V.asTup] at h
    split at h
    · rename_i vs
      have hall := chkL1_ground h hg
      intro S S' w w' v fp ho
      obtain ⟨cs, fps, h1, h2, h3, h4, h5⟩ := ho
      exact ⟨cs, fps, h1, h2, h3, fun j x f c hx hf hc => (hall c (List.mem_of_getElem? hc)).1 S S' w w' x f (h4 j x f c hx hf hc), h5⟩
    · exact absurd h (by simp)

theorem SL.chk_shared {l : SL} {v : V} {K : V → Option R} {r : R} (h : l.chk v K = some r) (hg : l.shared = true) : (∀ M, lay1 M v = (M, v)) ∧ (∀ M, lay M v = (M, v)) := by
  cases l with
  | any => simp [SL.shared] at hg
  | int k => obtain ⟨n, rfl, _⟩ := asInt_eq h; exact ⟨fun _ => rfl, fun _ => rfl⟩
  | bool => obtain ⟨n, rfl, _⟩ := asBool_eq h; exact ⟨fun _ => rfl, fun _ => rfl⟩
  | str => obtain ⟨n, rfl, _⟩ := asStr_eq h; exact ⟨fun _ => rfl, fun _ => rfl⟩
  | sl o e =>
    obtain ⟨n, rfl, _⟩ := asSl_eq h
    cases o with
    | true => simp [SL.shared] at hg
    | false => exact ⟨fun _ => rfl, fun _ => rfl⟩
theorem chkL_shared : ∀ {l : List SL} {vs : List V} {K : List V → Option R} {r : R}, chkL l vs K = some r → l.all SL.shared = true → ∀ v, v ∈ vs → ∀ M, lay1 M v = (M, v)
  | [], [], _, _, _, _ => by simp
  | [], _ :: _, _, _, h, _ => by simp [chkL, seeCons, seeNil] at h
  | _ :: _, [], _, _, h, _ => by simp [chkL, seeCons, seeNil] at h
  | l :: ls, v :: vs, K, r, h, hg => by
    simp only [chkL, seeCons, seeNil] at h
    simp only [List.all_cons, Bool.and_eq_true] at hg
    intro u hu
    rcases List.mem_cons.1 hu with rfl | hu
    · exact (SL.chk_shared h hg.1).1
    · exact chkL_shared (l := ls) (K := fun vs' => K (v :: vs')) (SL.chk_eq h) hg.2 u hu
theorem S1.chk_shared {l : S1} {v : V} {K : V → Option R} {r : R} (h : l.chk v K = some r) (hg : l.shared = true) : (∀ l, v ≠ .tup l) ∧ ∀ M, lay M v = (M, v) := by
  cases l with
  | leaf s =>
    have h1 := SL.chk_shared h hg
    refine ⟨fun l e => ?_, h1.2⟩
    subst e
    cases s with
    | any => simp [S1.shared, SL.shared] at hg
    | _ => simp [S1.chk, SL.chk, V.asInt, V.asBool, V.asStr, V.asSl] at h
  | agg l =>
    simp only [S1.chk, V.asAgg] at h
    split at h
    · rename_i vs
      exact ⟨by simp, fun M => by simp [lay, layL_id vs M (fun c hc => chkL_shared h hg c hc M)]⟩
    · exact absurd h (by simp)
  | pt l => simp [S1.shared] at hg
  | pv l =>
    simp only [S1.chk, V.asPv] at h
    split at h
    · exact ⟨by simp, fun M => rfl⟩
    · exact absurd h (by simp)
  | fnp f l => simp [S1.shared] at hg
  | pvn l =>
    simp only [S1.chk, V.asPvn] at h
    split at h
    · exact ⟨by simp, fun M => rfl⟩
    · exact ⟨by simp, fun M => rfl⟩
    · exact absurd h (by simp)
theorem chkL1_shared : ∀ {l : List S1} {vs : List V} {K : List V → Option R} {r : R}, chkL1 l vs K = some r → l.all S1.shared = true → ∀ v, v ∈ vs → ∀ M, lay M v = (M, v)
  | [], [], _, _, _, _ => by simp
  | [], _ :: _, _, _, h, _ => by simp [chkL1, seeCons, seeNil] at h
  | _ :: _, [], _, _, h, _ => by simp [chkL1, seeCons, seeNil] at h
  | l :: ls, v :: vs, K, r, h, hg => by
    simp only [chkL1, seeCons, seeNil] at h
    simp only [List.all_cons, Bool.and_eq_true] at hg
    intro u hu
    rcases List.mem_cons.1 hu with rfl | hu
    · exact (S1.chk_shared h hg.1).2
    · exact chkL1_shared (l := ls) (K := fun vs' => K (v :: vs')) (S1.chk_eq h) hg.2 u hu
theorem Sh.chk_shared {l : Sh} {v : V} {K : V → Option R} {r : R} (h : l.chk v K = some r) (hg : l.shared = true) : ∀ M, layRes M v = (M, v) := by
  cases l with
  | one s =>
    obtain ⟨h1, h2⟩ := S1.chk_shared h hg
    intro M
    have e : layRes M v = lay M v := by
      cases v with
      | tup l => exact absurd rfl (h1 l)
      | _ => rfl
    rw [e, h2]
  | tup l =>
    simp only [Sh.chk, V.asTup] at h
    split at h
    · rename_i vs
      intro M
      simp [layRes, layAll_id vs M (fun c hc => chkL1_shared h hg c hc M)]
    · exact absurd h (by simp)
end
end Go.Proofs.Ytfkkigbbejhfbaa.Idl
/- Calls of Go functions, as operations. -/
namespace Go.Proofs.Ytfkkigbbejhfbaa.Idl
open Go
variable {P : Program}
section
variable {F : Fx} {S S' Sa Sb : Nat → Prop} {own own' : Nat → Option Nat} {T T' : Nat → Value} {s : St} {a : Act} {w w' : World} {M M' : List V} {R : Type}
variable {rd : Option Nat} {nz : Nat}

theorem run_enter {f : FuncId} {fn : Func} (hf : P.funcs[f]? = some fn) (hname : (fn.name == "runtime.NumGoroutine") = false) (hb : fn.body.isSome = true) (args : Array Value) (w : World) :
    (callFunc f args).run P w = .ok (.enter f args) w := by
  have h1 : fn.name ≠ "runtime.NumGoroutine" := by simpa using hname
  obtain ⟨c, hc⟩ := Option.isSome_iff_exists.1 hb
  simp [callFunc, hf, h1, hc]

theorem call_run {E : Env} (hE : EnvOK P E) {o : Oper} {c : Call} {f : Operand} {g : Nat} {fn : Func} (ho : o.op = .call c) (hcal : c.callee = .value f) (hfn : E.fn g = some fn) {xs : List Value}
    (hv : a.eval f = .func (.func g) #[] xs.toArray) {K : Act → World → Prop} {Q : Exit → Act → World → Prop}
    (hC : Calls P g (c.args.toList.map a.eval ++ xs).toArray w fun e w' => ∃ v, e = .returned v ∧ K (a.put o.dst v) w') : o.wpIn (Zr rd) nz P a w K Q := by
  obtain ⟨h1, h2, h3⟩ := hE.fn g fn hfn
  have hrun : (execOp a.eval o).run P w = .ok (.enter g (c.args.toList.map a.eval ++ xs).toArray) w := by
    have e : (execOp a.eval o) = (do let d ← resolve a.eval c o.type; invoke d.target d.args) := by
      unfold execOp
      rw [ho]
    have hargs : c.args.map a.eval ++ xs.toArray = (c.args.toList.map a.eval ++ xs).toArray := by
      apply Array.ext'
      simp
    have e2 : (do let d ← resolve a.eval c o.type; invoke d.target d.args : Sem Next) = callFunc g (#[] ++ c.args.map a.eval ++ xs.toArray) := by
      simp only [resolve, hcal, hv, Deferred.ofValue, pure_bind, invoke]
    rw [e, e2, show (#[] ++ Array.map a.eval c.args ++ xs.toArray) = (c.args.toList.map a.eval ++ xs).toArray from by rw [Array.empty_append]; exact hargs]
    exact run_enter h1 h2 h3 _ _
  refine ⟨fun f _ => Zr_fn rd f, ?_⟩
  rw [Zr_round, Oper.semAt_eq rd a.eval o (not_defer hrun (fun d => by simp)), hrun]
  refine ⟨fun h => (by rw [Zr_depth] at h; cases h), (calls_z rd (nz - 1) hC).mono ?_⟩
  rintro e w' ⟨v, rfl, hk⟩
  exact hk

theorem fn_rep {v : Value} {g : Nat} {cap : List V} (h : RTV S w T M v (.fn g cap)) : ∃ xs : List Value, v = .func (.func g) #[] xs.toArray ∧ xs.length = cap.length ∧ ∀ (j : Nat) x c, xs[j]? = some x → cap[j]? = some c → RepL S w x c := by
  have h : RepL S w v (.fn g cap) := h
  cases h with
  | fn f cap xs hl hr => exact ⟨xs, rfl, hl, hr⟩

theorem caps_own {xs : List Value} {cap : List V} (hl : xs.length = cap.length) (hr : ∀ (j : Nat) x c, xs[j]? = some x → cap[j]? = some c → RepL S w x c) (hp : cap.all V.plain1 = true) :
    OwnVs S w xs (List.replicate cap.length []) cap := by
  refine ⟨hl, by simp, fun j x f c hx hf hc => ?_⟩
  have hfe : f = [] := by
    rw [List.getElem?_replicate] at hf
    split at hf
    · exact (Option.some.inj hf).symm
    · cases hf
  subst hfe
  have h1 := hr j x c hx hc
  have h2 := List.all_eq_true.1 hp c (List.mem_of_getElem? hc)
  cases c with
  | agg l => simp [V.plain1] at h2
  | pt l => simp [V.plain1] at h2
  | sl o ar => cases o with
    | true => simp [V.plain1] at h2
    | false => exact ⟨h1, rfl⟩
  | _ => exact ⟨h1, rfl⟩
theorem OwnVs.append {vs xs : List Value} {f1 f2 : List (List Nat)} {l cap : List V} (h1 : OwnVs S w vs f1 l) (h2 : OwnVs S w xs f2 cap) : OwnVs S w (vs ++ xs) (f1 ++ f2) (l ++ cap) := by
  refine ⟨by simp [h1.1, h2.1], by simp [h1.2.1, h2.2.1], fun j x f c hx hf hc => ?_⟩
  by_cases hj : j < l.length
  · rw [List.getElem?_append_left (by rw [h1.1]; exact hj)] at hx
    rw [List.getElem?_append_left (by rw [h1.2.1]; exact hj)] at hf
    rw [List.getElem?_append_left hj] at hc
    exact h1.2.2 j x f c hx hf hc
  · rw [List.getElem?_append_right (by rw [h1.1]; omega), h1.1] at hx
    rw [List.getElem?_append_right (by rw [h1.2.1]; omega), h1.2.1] at hf
    rw [List.getElem?_append_right (by omega)] at hc
    exact h2.2.2 _ x f c hx hf hc
theorem ptVals_cap : ∀ (xs : List Value) (cap : List V), cap.all V.plain1 = true → ptVals xs cap = []
  | [], _, _ => rfl
  | _ :: _, [], _ => by simp [ptVals]
  | x :: xs, c :: cap, h => by
    simp only [List.all_cons, Bool.and_eq_true] at h
    cases c <;> simp [ptVals, ptVals_cap xs cap h.2]
    simp [V.plain1] at h
theorem ptVals_append : ∀ (vs xs : List Value) (l cap : List V), vs.length = l.length → cap.all V.plain1 = true → ptVals (vs ++ xs) (l ++ cap) = ptVals vs l
  | [], xs, [], cap, _, h => by
    rw [List.nil_append, List.nil_append, ptVals_cap xs cap h]
    rfl
  | [], xs, _ :: _, cap, hl, _ => by simp at hl
  | _ :: _, xs, [], cap, hl, _ => by simp at hl
  | v :: vs, xs, c :: l, cap, hl, h => by
    have ih := ptVals_append vs xs l cap (by simpa using hl) h
    cases c <;> simp [ptVals, ih]
theorem flatten_nils : ∀ (n : Nat), (List.replicate n ([] : List Nat)).flatten = []
  | 0 => rfl
  | n + 1 => by simp

/-- the end of a call -/
theorem ret_sound (h : FR F S own T { s with M := M } a w) {ids : List Nat} {outs : List V} {ofps : List (List Nat)} {rfp : List Nat} {v : Value} {res : V} (hids : ∀ id, id ∈ ids → id < M.length) (ho : OwnVs S w (ids.map T) ofps outs)
    (hr : OwnT S w v rfp res) (hf : Free F S own w (ofps.flatten ++ rfp)) {K : St → Option R} {r : R} (d : Option Tmp) (hk : (backAll M ids outs fun M => K ({ s with M := (layRes M res).1 }.put d (layRes M res).2)) = some r) :
    HPost F K r (a.put d v) w := by
  obtain ⟨own1, T1, M1, f1, hf1, hk1⟩ := backAll_sound ids outs M own T ofps rfp _ r h hids ho hf hk
  obtain ⟨own2, T2, f2, hrt⟩ := layRes_sound f1 hr hf1
  exact ⟨S, own2, T2, _, f2.put' d hrt, hk1⟩

theorem OwnVs.mono {vs : List Value} {fps : List (List Nat)} {l : List V} (hS : ∀ b, S b → S' b) (h : OwnVs S w vs fps l) : OwnVs S' w vs fps l :=
  ⟨h.1, h.2.1, fun j x f c hx hf hc => (h.2.2 j x f c hx hf hc).mono hS (fun _ _ => rfl) (fun _ _ => rfl)⟩

theorem zip_get {α β : Type} {l : List α} {m : List β} {j : Nat} {p : α × β} (h : (l.zip m)[j]? = some p) : l[j]? = some p.1 := by
  rw [List.getElem?_zip_eq_some] at h
  exact h.1

theorem lent_alive {l : List V} {c : V} {id : Nat} (hc : c ∈ l) (h : id ∈ lend1Ids c) : id ∈ lentIds l := by
  rw [lentIds_eq]
  exact List.mem_flatMap.2 ⟨c, hc, h⟩

theorem own_ne {v : Value} {b : Nat} (h : own b = none) (hv : ∀ b, v.ownBlock = some b → own b ≠ none) : v.ownBlock ≠ some b := fun e => hv b e h

/-- a function that works on a slice in place -/
theorem inpV_sound {E : Env} (hE : EnvOK P E) (hF : FR F S own T s a w) {o : Oper} {c : Call} {f : Operand} (ho : o.op = .call c) (hcal : c.callee = .value f) {g : Nat} {fn : Func} (hfn : E.fn g = some fn) {cap : List V} {xs : List Value}
    (hv : a.eval f = .func (.func g) #[] xs.toArray) (hxl : xs.length = cap.length) {K : St → Option R} {r : R} {Q : Exit → Act → World → Prop}
    (h : (inpV E s.M g cap (c.args.toList.map s.eval) fun M v => K ({ s with M := M }.put o.dst v)) = some r) : o.wpIn (Zr rd) nz P a w (HPost F K r) Q := by
  unfold inpV at h
  split at h
  · rename_i ret ok gg id hin hargs
    have hx0 : xs = [] := List.eq_nil_of_length_eq_zero (by simpa using hxl)
    subst hx0
    obtain ⟨x, hax⟩ : ∃ x, c.args.toList = [x] := by
      rcases hc : c.args.toList with _ | ⟨x, _ | ⟨y, l⟩⟩
      · rw [hc] at hargs; simp at hargs
      · exact ⟨x, rfl⟩
      · rw [hc] at hargs; simp at hargs
    rw [hax] at hargs
    simp only [List.map_cons, List.map_nil, List.cons.injEq, and_true] at hargs
    have hrt := hF.eval x
    rw [hargs] at hrt
    obtain ⟨hlt, hxT, _⟩ := (show RT S w T s.M (a.eval x) (.rs id) from hrt)
    split at h
    · rename_i ar hpl
      obtain ⟨hO, hob⟩ := hF.place hpl (by simp)
      have hnS : ∀ b, (T id).ownBlock = some b → ¬ S b := fun b hb => (hF.own b id (hob b hb)).2.1
      cases hok : ok ar with
      | false => rw [hok] at h; exact absurd h (by simp)
      | true =>
        rw [hok] at h
        simp only [cond_true] at h
        obtain ⟨hlen, hC⟩ := hE.inp g ret ok gg hin S w (T id) ar hO hnS hok
        refine call_run hE ho hcal hfn hv ?_
        have e0 : (c.args.toList.map a.eval ++ ([] : List Value)).toArray = #[T id] := by rw [hax]; simp [hxT]
        rw [e0]
        refine hC.mono ?_
        rintro e w' ⟨v', he, hv', hO', hob', hsz, hout, hsame⟩
        have hS' : ∀ b, S b → w'.heap[b]? = w.heap[b]? := fun b hb => hsame b (hF.slt b hb) (fun e => hnS b e hb)
        have hK' : ∀ b, F.K b → w'.heap[b]? = w.heap[b]? := fun b hb => hsame b (Nat.lt_of_lt_of_le (hF.keep b hb).1 hF.size) (fun e => (hF.own b id (hob b e)).2.2.1 hb)
        have hoth : ∀ b j, own b = some j → j ≠ id → w'.heap[b]? = w.heap[b]? := fun b j hb hj => hsame b (hF.own b j hb).1 (fun e => hj (by have := hob b e; rw [hb] at this; exact Option.some.inj this))
        cases ret with
        | false =>
          simp only [cond_false] at h he
          have hvT := hv' rfl
          subst hvT
          obtain ⟨hl1, hl2⟩ := hlen rfl
          have L : Later S S w w' T T s.M (s.M.set id (.sl true (gg ar))) := ⟨fun _ h => h, hS', fun _ _ => rfl, by simp, fun j o' ar' hj hp => by
            rw [pl_set] at hp
            split at hp
            · rename_i hji
              cases hp
              exact ⟨true, ar, by rw [hji.1]; exact hpl, hl2.symm, hl1.symm⟩
            · exact ⟨o', ar', hp, rfl, rfl⟩⟩
          have f2 : FR F S own T { s with M := s.M.set id (.sl true (gg ar)) } a w' := by
            refine hF.change L (fun j c hc => ?_) (fun b j hb => ?_) (fun b hb => Nat.lt_of_lt_of_le (hF.slt b hb) hsz) hK' hsz hout (fun b hb => .inl hb)
            · by_cases hj : j = id
              · subst hj
                rw [List.getElem?_set_self hlt] at hc
                cases hc
                exact ⟨hO', hob⟩
              · rw [List.getElem?_set_ne (Ne.symm hj)] at hc
                exact (hF.places j c hc).later L (List.getElem?_eq_some_iff.1 hc).1 (fun b hb => ⟨hb, hoth b j hb hj⟩)
            · obtain ⟨h1, h2, h3, h4⟩ := hF.own b j hb
              exact ⟨Nat.lt_of_lt_of_le h1 hsz, h2, h3, by simpa using h4⟩
          exact ⟨.tuple #[], he, S, own, T, _, f2.put' o.dst (c := .tup []) ⟨[], rfl, rfl, fun j x c hx => by simp at hx⟩, h⟩
        | true =>
          simp only [cond_true] at h he
          have L : Later S S w w' T T s.M (s.M.set id .dead) := ⟨fun _ h => h, hS', fun _ _ => rfl, by simp, fun j o' ar' hj hp => by
            rw [pl_set] at hp
            split at hp
            · cases hp
            · exact ⟨o', ar', hp, rfl, rfl⟩⟩
          have f2 : FR F S (without own id) T { s with M := s.M.set id .dead } a w' := by
            refine hF.change L (fun j c hc => ?_) (fun b j hb => ?_) (fun b hb => Nat.lt_of_lt_of_le (hF.slt b hb) hsz) hK' hsz hout (fun b hb => .inl hb)
            · by_cases hj : j = id
              · subst hj
                rw [List.getElem?_set_self hlt] at hc
                cases hc
                trivial
              · rw [List.getElem?_set_ne (Ne.symm hj)] at hc
                refine (hF.places j c hc).later L (List.getElem?_eq_some_iff.1 hc).1 (fun b hb => ⟨?_, hoth b j hb hj⟩)
                simp only [without]
                rw [if_neg (by rw [hb]; intro e; exact hj (Option.some.inj e))]
                exact hb
            · have hb' := without_own hb
              obtain ⟨h1, h2, h3, h4⟩ := hF.own b j hb'
              exact ⟨Nat.lt_of_lt_of_le h1 hsz, h2, h3, by simpa using h4⟩
          have hfree : Free F S (without own id) w' v'.ownBlock.toList := by
            refine ⟨by cases v'.ownBlock <;> simp, fun b hb => ?_⟩
            have hb1 : v'.ownBlock = some b := by simpa using hb
            have hb2 := hob b (hob' b hb1)
            obtain ⟨h1, h2, h3, _⟩ := hF.own b id hb2
            exact ⟨Nat.lt_of_lt_of_le h1 hsz, h2, h3, by simp [without, hb2]⟩
          obtain ⟨own3, T3, f3, _, _, rr, _⟩ := lay1_sound (c := .sl true (gg ar)) f2 ⟨hO', rfl⟩ hfree
          simp only [lay1, List.length_set] at f3 rr
          exact ⟨v', he, S, own3, T3, _, f3.put' o.dst (.of_rta (.of_rt rr (by simp)) (by simp)), h⟩
    · exact absurd h (by simp)
  · exact absurd h (by simp)

theorem iopH_call {E : Env} {cf : CallF} (hE : EnvOK P E) (hcf : CallsOK P cf) (hF : FR F S own T s a w) (o : Oper) {c : Call} {f : Operand} (ho : o.op = .call c) (hcal : c.callee = .value f) {K : St → Option R} {r : R} {Q : Exit → Act → World → Prop}
    (h : iopH E cf s o K = some r) : o.wpIn (Zr rd) nz P a w (HPost F K r) Q := by
  obtain ⟨dst, op, ty, pos, after, guard⟩ := o
  simp only at ho
  subst ho
  simp only [iopH_eq, iopP, hcal] at h
  unfold fnOf at h
  split at h
  · rename_i g cap hev
    simp only at h
    split at h
    · rename_i sg fn hsg hfn
      have hfv := hF.eval f
      rw [hev] at hfv
      obtain ⟨xs, hv, hxl, hxr⟩ := fn_rep hfv
      have hrt : ∀ (j : Nat) x p, ((c.args.toList.map a.eval).take (sg.tys fn).length)[j]? = some x → ((c.args.toList.map s.eval).zip (sg.tys fn))[j]? = some p → RTV S w T s.M x p.1 := by
        intro j x p hx hp
        have hp1 := zip_get hp
        rw [List.getElem?_take] at hx
        rw [if_pos (by
          rcases Nat.lt_or_ge j (sg.tys fn).length with hlt | hge
          · exact hlt
          · rw [if_neg (by omega)] at hx; cases hx)] at hx
        rw [List.getElem?_map, Option.map_eq_some_iff] at hx hp1
        obtain ⟨y, hy, rfl⟩ := hx
        obtain ⟨z, hz, he⟩ := hp1
        rw [hy] at hz; cases hz
        rw [← he]
        exact hF.eval y
      have hlen0 : ((c.args.toList.map a.eval).take (sg.tys fn).length).length = ((c.args.toList.map s.eval).zip (sg.tys fn)).length := by simp; omega
      obtain ⟨own1, M1, as, ids, fps, f1, k1, e1, e2, hargs, hpt, hids, hk⟩ := handAll_sound (s := s) hE ((c.args.toList.map s.eval).zip (sg.tys fn)) s.M own ((c.args.toList.map a.eval).take (sg.tys fn).length) _ r hF hlen0 hrt h
      split at hk
      · rename_i hchk
        obtain ⟨hsz, hal, hcp⟩ := hchk
        have htake : (c.args.toList.map a.eval).take (sg.tys fn).length = c.args.toList.map a.eval := List.take_of_length_le (by simp only [Sig.tys, tysOf_length]; simpa using hsz)
        rw [htake] at hargs hpt hlen0
        have hlen := hlen0
        split at hk
        · rename_i p hp
          have hal' : ∀ id, id ∈ lentIds (c.args.toList.map s.eval) → ∃ o' ar, pl M1 id = .sl o' ar := by
            intro id hid
            have := List.all_eq_true.1 hal id hid
            split at this
            · rename_i o' ar he; exact ⟨o', ar, he⟩
            · simp at this
          have hk1 := hk
          have hk := chkL1_eq (Sh.chk_eq hk)
          -- what is handed over, whatever counts as shared then
          have args_own : ∀ Sx : Nat → Prop, (∀ b, S b → Sx b) → (∀ id ar, id ∈ lentIds (c.args.toList.map s.eval) → pl M1 id = .sl true ar → RepL Sx w (T id) (.sl false ar)) →
              OwnVs Sx w (c.args.toList.map a.eval ++ xs) (fps ++ List.replicate cap.length []) (as ++ cap) := by
            intro Sx hSx hR
            refine OwnVs.append ⟨by rw [e1]; exact hlen, by rw [e1, e2], fun j x fp d hx hf hd => ?_⟩ (caps_own hxl (fun j x c hx hc => (hxr j x c hx hc).mono hSx (fun _ _ => rfl)) hcp)
            have hj : j < ((c.args.toList.map s.eval).zip (sg.tys fn)).length := by rw [← e1]; exact (List.getElem?_eq_some_iff.1 hd).1
            obtain ⟨p0, hp0⟩ : ∃ p0, ((c.args.toList.map s.eval).zip (sg.tys fn))[j]? = some p0 := ⟨_, List.getElem?_eq_getElem hj⟩
            have hmem : p0.1 ∈ c.args.toList.map s.eval := List.mem_of_getElem? (zip_get hp0)
            rcases hargs j x fp p0 d hx hf hp0 hd with ⟨q, rfl, hOw⟩ | ⟨rfl, hnp, M2, hla, hkeep⟩
            · exact hOw.mono hSx (fun _ _ => rfl) (fun _ _ => rfl)
            · refine hla.final hSx hnp (fun id ar hid hpl => ?_)
              have hin := lent_alive hmem hid
              obtain ⟨o', ar', hp'⟩ := hal' id hin
              have := hkeep id (by rw [hp']; simp)
              rw [hpl] at this
              exact hR id ar hin this
          have hfree : Free F S own1 w (fps ++ List.replicate cap.length []).flatten := by
            rw [List.flatten_append, flatten_nils, List.append_nil]; exact k1.free
          have hpv : ptVals (c.args.toList.map a.eval ++ xs) (as ++ cap) = ids.map T := by
            rw [ptVals_append _ _ _ _ (by rw [e1]; exact hlen) hcp, hpt]
          refine call_run hE (o := ⟨dst, .call c, ty, pos, after, guard⟩) rfl hcal hfn hv ?_
          by_cases hgr : (sg.res.ground && sg.outs.isEmpty) = true
          · rw [if_pos hgr] at hk
            simp only [Bool.and_eq_true, List.isEmpty_iff] at hgr
            have hG := Sh.chk_ground hk1 hgr.1
            have hCs := call_core (Sa := fun b => S b ∨ own1 b ≠ none) f1 (hcf g (as ++ cap) p.1 p.2 hp) (fun b hb => .inl hb) (fun b hb => hb)
              (args_own (fun b => S b ∨ own1 b ≠ none) (fun b hb => .inl hb) (fun id ar _ hpl => by
                obtain ⟨hO, hob⟩ := FR.place (s := { s with M := M1 }) f1 hpl (by simp)
                exact (hO.mono (S' := fun b => S b ∨ own1 b ≠ none) (fun b hb => .inl hb) (fun _ _ => rfl) (fun _ _ => rfl)).share (fun b hb => .inr (by rw [hob b hb]; simp)))) hfree
            refine hCs.mono ?_
            rintro e w' ⟨v, S2, rfp, ofps, rfl, hcp2⟩
            obtain ⟨f2, hfr2, L2⟩ := f1.called hcp2 hfree (fun b hb => hb) (fun b hb => hcp2.hS b (.inl hb)) (fun b hb => .inl hb)
            have hou : p.2 = [] := by
              have := Sh.chk_eq hk1
              rw [hgr.2] at this
              cases hp2 : p.2 with
              | nil => rfl
              | cons x y => rw [hp2] at this; simp [chkL1, seeCons, seeNil] at this
            refine ⟨v, rfl, ret_sound f2 (ofps := ofps) (rfp := rfp) (outs := p.2) (res := p.1) (ids := ids) (fun id hid => by have := k1.len; have := hids id hid; omega) ?_ (hG _ _ _ _ _ _ hcp2.res) hfr2 dst hk⟩
            have ho2 := hcp2.outs
            rw [hpv] at ho2
            rw [hou] at ho2 ⊢
            exact ⟨ho2.1, ho2.2.1, fun j x f c _ _ hc => by simp at hc⟩
          · rw [if_neg hgr] at hk
            obtain ⟨S2, own2, f2, k2⟩ := freezeIds_sound (lentIds (c.args.toList.map s.eval)) M1 S own1 f1
            have hfree2 := hfree.sunk k2
            have hCs := call_core (Sa := S2) f2 (hcf g (as ++ cap) p.1 p.2 hp) (fun b hb => hb) (fun b hb => .inl hb)
              (args_own S2 k2.later.hS (fun id ar hin hpl => FR.place (s := { s with M := freezeIds M1 (lentIds (c.args.toList.map s.eval)) }) f2 (freeze_pl _ _ _ _ _ hpl hin) (by simp))) hfree2
            refine hCs.mono ?_
            rintro e w' ⟨v, S3, rfp, ofps, rfl, hcp2⟩
            obtain ⟨f3, hfr3, L3⟩ := f2.called hcp2 hfree2 hcp2.hS (fun b hb => hb) hcp2.new
            refine ⟨v, rfl, ret_sound f3 (ofps := ofps) (rfp := rfp) (outs := p.2) (res := p.1) (ids := ids) (fun id hid => by have := k1.len; have := k2.len; have := hids id hid; omega) ?_ hcp2.res hfr3 dst hk⟩
            have ho2 := hcp2.outs
            rw [hpv] at ho2
            exact ho2
        · exact absurd hk (by simp)
      · exact absurd hk (by simp)
    · rename_i fn _ hfn
      have hfv := hF.eval f
      rw [hev] at hfv
      obtain ⟨xs, hv, hxl, _⟩ := fn_rep hfv
      exact inpV_sound hE hF (o := ⟨dst, .call c, ty, pos, after, guard⟩) rfl hcal hfn hv hxl h
    · exact absurd h (by simp)
  · exact absurd h (by simp)

theorem lentOwn_false {M : List V} {c : V} (h : lentOwn M c = false) {id : Nat} (hid : id ∈ lend1Ids c) (ar : Arr V) : pl M id ≠ .sl true ar := by
  intro hp
  cases c with
  | rs j =>
    simp only [lend1Ids, List.mem_singleton] at hid
    subst hid
    simp [lentOwn, hp] at h
  | agg l =>
    simp only [lend1Ids, List.mem_filterMap] at hid
    obtain ⟨u, hu, he⟩ := hid
    simp only [lentOwn, List.any_eq_false] at h
    have := h u hu
    cases u with
    | rs j => simp at he; subst he; simp [hp] at this
    | _ => simp at he
  | _ => simp [lend1Ids] at hid

theorem iopS_call {E : Env} {cf : CallF} (hE : EnvOK P E) (hcf : CallsOK P cf) (hF : FR F S own T s a w) (o : Oper) {c : Call} {f : Operand} (ho : o.op = .call c) (hcal : c.callee = .value f) {K : St → Option R} {r : R} {Q : Exit → Act → World → Prop}
    (hs : isSimple E s.M s.eval o = true) (h : (iopS E cf s.M s.eval o fun v => K (s.put o.dst v)) = some r) : o.wpIn (Zr rd) nz P a w (HPost F K r) Q := by
  obtain ⟨dst, op, ty, pos, after, guard⟩ := o
  simp only at ho
  subst ho
  simp only [iopS, hcal] at h
  simp only [isSimple, hcal] at hs
  unfold fnOf at h
  split at h
  · rename_i g cap hev
    simp only [hev] at hs
    simp only at h
    split at h
    · rename_i sg fn hsg hfn
      simp only [hsg, Bool.and_eq_true, List.isEmpty_iff, Bool.not_eq_true', Bool.or_eq_true] at hs
      obtain ⟨⟨⟨hso, hsr⟩, hsno⟩, hsl⟩ := hs
      have hfv := hF.eval f
      rw [hev] at hfv
      obtain ⟨xs, hv, hxl, hxr⟩ := fn_rep hfv
      have hrt : ∀ (j : Nat) x p, ((c.args.toList.map a.eval).take (sg.tys fn).length)[j]? = some x → ((c.args.toList.map s.eval).zip (sg.tys fn))[j]? = some p → RTV S w T s.M x p.1 := by
        intro j x p hx hp
        have hp1 := zip_get hp
        rw [List.getElem?_take] at hx
        rw [if_pos (by
          rcases Nat.lt_or_ge j (sg.tys fn).length with hlt | hge
          · exact hlt
          · rw [if_neg (by omega)] at hx; cases hx)] at hx
        rw [List.getElem?_map, Option.map_eq_some_iff] at hx hp1
        obtain ⟨y, hy, rfl⟩ := hx
        obtain ⟨z, hz, he⟩ := hp1
        rw [hy] at hz; cases hz
        rw [← he]
        exact hF.eval y
      have hlen0 : ((c.args.toList.map a.eval).take (sg.tys fn).length).length = ((c.args.toList.map s.eval).zip (sg.tys fn)).length := by simp; omega
      obtain ⟨as, e1, hargs, hk⟩ := lendAll_sound hE (s := s) hF ((c.args.toList.map s.eval).zip (sg.tys fn)) ((c.args.toList.map a.eval).take (sg.tys fn).length) _ r hlen0 hrt h
      split at hk
      · rename_i hchk
        obtain ⟨hsz, hcp⟩ := hchk
        have htake : (c.args.toList.map a.eval).take (sg.tys fn).length = c.args.toList.map a.eval := List.take_of_length_le (by simp only [Sig.tys, tysOf_length]; simpa using hsz)
        rw [htake] at hargs hlen0
        have hlen := hlen0
        split at hk
        · rename_i p hp
          have args_own : ∀ Sx : Nat → Prop, (∀ b, S b → Sx b) → (∀ id ar, id ∈ lentIds (c.args.toList.map s.eval) → pl s.M id = .sl true ar → RepL Sx w (T id) (.sl false ar)) →
              OwnVs Sx w (c.args.toList.map a.eval ++ xs) (List.replicate as.length [] ++ List.replicate cap.length []) (as ++ cap) := by
            intro Sx hSx hR
            refine OwnVs.append ⟨by rw [e1]; exact hlen, by simp, fun j x fp d hx hf hd => ?_⟩ (caps_own hxl (fun j x c hx hc => (hxr j x c hx hc).mono hSx (fun _ _ => rfl)) hcp)
            have hfe : fp = [] := by
              rw [List.getElem?_replicate] at hf
              split at hf
              · exact (Option.some.inj hf).symm
              · cases hf
            subst hfe
            have hj : j < ((c.args.toList.map s.eval).zip (sg.tys fn)).length := by rw [← e1]; exact (List.getElem?_eq_some_iff.1 hd).1
            obtain ⟨p0, hp0⟩ : ∃ p0, ((c.args.toList.map s.eval).zip (sg.tys fn))[j]? = some p0 := ⟨_, List.getElem?_eq_getElem hj⟩
            have hmem : p0.1 ∈ c.args.toList.map s.eval := List.mem_of_getElem? (zip_get hp0)
            obtain ⟨hnp, hla⟩ := hargs j x p0 d hx hp0 hd
            exact hla.final hSx hnp (fun id ar hid hpl => hR id ar (lent_alive hmem hid) hpl)
          have hfl : (List.replicate as.length ([] : List Nat) ++ List.replicate cap.length []).flatten = [] := by
            rw [List.flatten_append, flatten_nils, flatten_nils]; rfl
          have hfree : Free F S own w (List.replicate as.length ([] : List Nat) ++ List.replicate cap.length []).flatten := by
            rw [hfl]; exact ⟨by simp, fun b hb => by simp at hb⟩
          have hshr := Sh.chk_shared hk hsr
          have hk2 := Sh.chk_eq hk
          refine call_run hE (o := ⟨dst, .call c, ty, pos, after, guard⟩) rfl hcal hfn hv ?_
          by_cases hgr : sg.res.ground = true
          · have hG := Sh.chk_ground hk hgr
            have hCs := call_core (Sa := fun b => S b ∨ own b ≠ none) (s := s) hF (hcf g (as ++ cap) p.1 p.2 hp) (fun b hb => .inl hb) (fun b hb => hb)
              (args_own (fun b => S b ∨ own b ≠ none) (fun b hb => .inl hb) (fun id ar _ hpl => by
                obtain ⟨hO, hob⟩ := FR.place hF hpl (by simp)
                exact (hO.mono (S' := fun b => S b ∨ own b ≠ none) (fun b hb => .inl hb) (fun _ _ => rfl) (fun _ _ => rfl)).share (fun b hb => .inr (by rw [hob b hb]; simp)))) hfree
            refine hCs.mono ?_
            rintro e w' ⟨v, S2, rfp, ofps, rfl, hcp2⟩
            obtain ⟨f2, hfr2, L2⟩ := FR.called (s := s) hF hcp2 hfree (fun b hb => hb) (fun b hb => hcp2.hS b (.inl hb)) (fun b hb => .inl hb)
            refine ⟨v, rfl, ret_sound f2 (ofps := []) (rfp := rfp) (outs := []) (res := p.1) (ids := []) (fun id hid => by simp at hid) ⟨rfl, rfl, fun j x f c _ _ hc => by simp at hc⟩ (hG _ _ _ _ _ _ hcp2.res) (hfr2.append_right (fun _ _ => rfl)) dst ?_⟩
            simp only [backAll, hshr]
            exact hk2
          · have hsl' := hsl.resolve_left hgr
            have hCs := call_core (Sa := S) (s := s) hF (hcf g (as ++ cap) p.1 p.2 hp) (fun b hb => hb) (fun b hb => .inl hb)
              (args_own S (fun b hb => hb) (fun id ar hin hpl => by
                exfalso
                rw [lentIds_eq, List.mem_flatMap] at hin
                obtain ⟨u, hu, hid⟩ := hin
                rw [List.mem_map] at hu
                obtain ⟨y, hy, rfl⟩ := hu
                rw [Array.any_eq_false'] at hsl'
                have := hsl' y (by simpa using hy)
                exact lentOwn_false (by simpa using this) hid ar hpl)) hfree
            refine hCs.mono ?_
            rintro e w' ⟨v, S2, rfp, ofps, rfl, hcp2⟩
            obtain ⟨f2, hfr2, L2⟩ := FR.called (s := s) hF hcp2 hfree hcp2.hS (fun b hb => hb) hcp2.new
            refine ⟨v, rfl, ret_sound f2 (ofps := []) (rfp := rfp) (outs := []) (res := p.1) (ids := []) (fun id hid => by simp at hid) ⟨rfl, rfl, fun j x f c _ _ hc => by simp at hc⟩ hcp2.res (hfr2.append_right (fun _ _ => rfl)) dst ?_⟩
            simp only [backAll, hshr]
            exact hk2
        · exact absurd hk (by simp)
      · exact absurd hk (by simp)
    · exact absurd h (by simp)
  · exact absurd h (by simp)

/-- one operation -/
theorem iop_sound {E : Env} {cf : CallF} (hE : EnvOK P E) (hcf : CallsOK P cf) (hF : FR F S own T s a w) (o : Oper) {K : St → Option R} {r : R} {Q : Exit → Act → World → Prop} (h : iop E cf s o K = some r) : o.wpIn (Zr rd) nz P a w (HPost F K r) Q := by
  rw [iop_eq] at h
  split at h
  · rename_i hs
    by_cases hc : ∃ c f, o.op = .call c ∧ c.callee = .value f
    · obtain ⟨c, f, ho, hcal⟩ := hc
      exact iopS_call hE hcf hF o ho hcal hs h
    · by_cases hb : ∃ t n ps, o.op = .buildSlice t n ps
      · obtain ⟨t, n, ps, ho⟩ := hb
        obtain ⟨dst, op, ty, pos, after, guard⟩ := o
        simp only at ho
        subst ho
        simp only [isSimple, Bool.and_eq_true] at hs
        simp only [iopS] at h
        split at h
        · rename_i te hte
          obtain ⟨v, d, w', S', hr, hF', hrt, hk⟩ := buildSliceS_sound hE hF hte hs.2 (Kc := fun v => K (s.put dst v)) h
          exact wp_value (by simp only [execOp]; rw [Sem.run_bind, hr]; rfl) ⟨S', own, T, _, hF'.put dst hrt, hk⟩
        · exact absurd h (by simp)
      obtain ⟨v, d, w', S', hr, hF', hrt, hk⟩ := iopS_value hE hF o hs (fun c ho => by
        cases hcal : c.callee with
        | builtin b => exact ⟨b, rfl⟩
        | value f => exact absurd ⟨c, f, ho, hcal⟩ hc
        | invoke x y => simp [isSimple, ho, hcal] at hs) (fun t n ps ho => hb ⟨t, n, ps, ho⟩) h
      exact wp_value hr ⟨S', own, T, _, hF'.put o.dst hrt, hk⟩
  · by_cases hc : ∃ c f, o.op = .call c ∧ c.callee = .value f
    · obtain ⟨c, f, ho, hcal⟩ := hc
      exact iopH_call hE hcf hF o ho hcal h
    · refine iopH_value hE hF o (fun c ho => ?_) h
      cases hcal : c.callee with
      | builtin b => exact ⟨b, rfl⟩
      | value f => exact absurd ⟨c, f, ho, hcal⟩ hc
      | invoke x y => simp [iopH_eq, iopP, ho, hcal] at h
end
end Go.Proofs.Ytfkkigbbejhfbaa.Idl
/- Marks in a frame: what is of no more use is forgotten, places get new numbers. -/
namespace Go.Proofs.Ytfkkigbbejhfbaa.Idl
open Go
variable {P : Program}
section
variable {F : Fx} {S S' : Nat → Prop} {own own' : Nat → Option Nat} {T T' : Nat → Value} {s : St} {a : Act} {w w' : World} {M M' : List V} {R : Type}

theorem addId_nodup {acc : List Nat} (id : Nat) (h : acc.Nodup) : (addId acc id).Nodup := by
  unfold addId
  split
  · exact h
  · rename_i hn
    refine List.nodup_append.2 ⟨h, by simp, fun x hx y hy e => ?_⟩
    simp only [List.mem_singleton] at hy
    subst e hy
    exact hn (by simpa using hx)
theorem addId_mem {acc : List Nat} {id x : Nat} (h : x ∈ acc) : x ∈ addId acc id := by
  unfold addId
  split
  · exact h
  · simp [h]
theorem addId_self {acc : List Nat} {id : Nat} : id ∈ addId acc id := by
  unfold addId
  split
  · rename_i h; simpa using h
  · simp
theorem reach1_ok {acc : List Nat} (v : V) (h : acc.Nodup) : (reach1 acc v).Nodup ∧ ∀ x, x ∈ acc → x ∈ reach1 acc v := by
  unfold reach1
  split <;> first | exact ⟨addId_nodup _ h, fun x hx => addId_mem hx⟩ | exact ⟨h, fun _ hx => hx⟩
theorem fold1_ok : ∀ (l : List V) (acc : List Nat), acc.Nodup → (l.foldl reach1 acc).Nodup ∧ ∀ x, x ∈ acc → x ∈ l.foldl reach1 acc
  | [], acc, h => ⟨h, fun _ hx => hx⟩
  | v :: l, acc, h => by
    obtain ⟨h1, h2⟩ := reach1_ok v h
    obtain ⟨h3, h4⟩ := fold1_ok l (reach1 acc v) h1
    exact ⟨h3, fun x hx => h4 x (h2 x hx)⟩
theorem reachV_ok {acc : List Nat} (v : V) (h : acc.Nodup) : (reachV acc v).Nodup ∧ ∀ x, x ∈ acc → x ∈ reachV acc v := by
  unfold reachV
  split <;> first | exact fold1_ok _ _ h | exact reach1_ok _ h
theorem foldV_ok : ∀ (l : List V) (acc : List Nat), acc.Nodup → (l.foldl reachV acc).Nodup ∧ ∀ x, x ∈ acc → x ∈ l.foldl reachV acc
  | [], acc, h => ⟨h, fun _ hx => hx⟩
  | v :: l, acc, h => by
    obtain ⟨h1, h2⟩ := reachV_ok v h
    obtain ⟨h3, h4⟩ := foldV_ok l (reachV acc v) h1
    exact ⟨h3, fun x hx => h4 x (h2 x hx)⟩
theorem reachM_ok : ∀ (ids acc : List Nat), acc.Nodup → (reachM M ids acc).Nodup ∧ ∀ x, x ∈ acc → x ∈ reachM M ids acc
  | [], acc, h => ⟨h, fun _ hx => hx⟩
  | id :: ids, acc, h => by
    unfold reachM
    split
    · rename_i l _
      obtain ⟨h1, h2⟩ := fold1_ok l acc h
      obtain ⟨h3, h4⟩ := reachM_ok ids (l.foldl reach1 acc) h1
      exact ⟨h3, fun x hx => h4 x (h2 x hx)⟩
    · exact reachM_ok ids acc h
theorem foldI_ok : ∀ (l acc : List Nat), acc.Nodup → (l.foldl addId acc).Nodup ∧ (∀ x, x ∈ acc → x ∈ l.foldl addId acc) ∧ ∀ x, x ∈ l → x ∈ l.foldl addId acc
  | [], acc, h => ⟨h, fun _ hx => hx, fun x hx => by simp at hx⟩
  | v :: l, acc, h => by
    obtain ⟨h3, h4, h5⟩ := foldI_ok l (addId acc v) (addId_nodup v h)
    refine ⟨h3, fun x hx => h4 x (addId_mem hx), fun x hx => ?_⟩
    rcases List.mem_cons.1 hx with rfl | hx
    · exact h4 _ addId_self
    · exact h5 x hx

theorem idxOf_some {l : List Nat} {x j : Nat} (h : l.idxOf? x = some j) : l[j]? = some x := by
  rw [List.idxOf?, List.findIdx?_eq_some_iff_getElem] at h
  obtain ⟨h1, h2, _⟩ := h
  rw [List.getElem?_eq_getElem h1]
  simpa using h2
theorem idxOf_nodup {l : List Nat} (hn : l.Nodup) {x j : Nat} (h : l[j]? = some x) : l.idxOf? x = some j := by
  cases e : l.idxOf? x with
  | none =>
    rw [List.idxOf?, List.findIdx?_eq_none_iff] at e
    have := e x (List.mem_of_getElem? h)
    simp at this
  | some i =>
    have h2 := idxOf_some e
    have h3 := (List.getElem?_eq_some_iff.1 h).1
    have h4 := (List.getElem?_eq_some_iff.1 h2).1
    have := (List.getElem_inj (h₀ := h4) (h₁ := h3) hn).1 (by rw [(List.getElem?_eq_some_iff.1 h2).2, (List.getElem?_eq_some_iff.1 h).2])
    rw [this]
theorem idxOf_mem {l : List Nat} {x : Nat} (h : x ∈ l) : ∃ j, l.idxOf? x = some j := by
  cases e : l.idxOf? x with
  | none =>
    rw [List.idxOf?, List.findIdx?_eq_none_iff] at e
    have := e x h
    simp at this
  | some i => exact ⟨i, rfl⟩

/-- a place's new number -/
structure Ren (M M' : List V) (T T' : Nat → Value) (ord : List Nat) : Prop where
  nodup : ord.Nodup
  len : M'.length = ord.length
  T : ∀ (j id : Nat), ord[j]? = some id → T' j = T id
  pl : ∀ (j id : Nat), ord[j]? = some id → pl M' j = renP ord (pl M id)
theorem Ren.idx {ord : List Nat} (h : Ren M M' T T' ord) {id j : Nat} (hi : ord.idxOf? id = some j) : j < M'.length ∧ T' j = T id ∧ Idl.pl M' j = renP ord (Idl.pl M id) := by
  have := idxOf_some hi
  exact ⟨by rw [h.len]; exact (List.getElem?_eq_some_iff.1 this).1, h.T j id this, h.pl j id this⟩

theorem ren1_sound {ord : List Nat} (h : Ren M M' T T' ord) {v : Value} {c : V} (hr : RT S w T M v c) : RT S w T' M' v (ren1 ord c) := by
  cases c with
  | rs id =>
    simp only [ren1]
    split
    · rename_i j hj
      obtain ⟨h1, h2, h3⟩ := h.idx hj
      exact ⟨h1, by rw [h2]; exact hr.2.1, hr.2.2⟩
    · trivial
  | pr id off =>
    simp only [ren1]
    split
    · rename_i j hj
      obtain ⟨h1, h2, h3⟩ := h.idx hj
      obtain ⟨_, b, e1, e2⟩ := hr
      exact ⟨h1, b, by rw [h2]; exact e1, e2⟩
    · trivial
  | er id i off =>
    simp only [ren1]
    split
    · rename_i j hj
      obtain ⟨h1, h2, h3⟩ := h.idx hj
      obtain ⟨_, hr⟩ := hr
      refine ⟨h1, fun o a hp => ?_⟩
      rw [h3] at hp
      have hp' : pl M id = .sl o a := by
        unfold renP at hp
        split at hp
        · rename_i l _
          cases hc : ((l.map (ren1 ord)).all okCell) <;> rw [hc] at hp <;> simp at hp
        · exact hp
      rw [h2]
      exact hr o a hp'
    · trivial
  | dead => trivial
  | bool b => exact hr
  | int k n => exact hr
  | str s => exact hr
  | nils => exact hr
  | nilp => exact hr
  | nilf => exact hr
  | sl o a => exact hr
  | agg l => exact hr
  | tup l => exact hr
  | pv l off => exact hr
  | pt l => exact hr
  | fn f cap => exact hr
theorem ren1_shape {ord : List Nat} (c : V) : (∀ l, c ≠ .agg l) → (∀ l, c ≠ .tup l) → (∀ l, ren1 ord c ≠ .agg l) ∧ (∀ l, ren1 ord c ≠ .tup l) := by
  intro h1 h2
  cases c with
  | agg l => exact absurd rfl (h1 l)
  | tup l => exact absurd rfl (h2 l)
  | rs id => simp only [ren1]; split <;> simp
  | pr id off => simp only [ren1]; split <;> simp
  | er id i off => simp only [ren1]; split <;> simp
  | _ => simp [ren1]
theorem renA_sound {ord : List Nat} (h : Ren M M' T T' ord) {v : Value} {c : V} (hr : RTA S w T M v c) : RTA S w T' M' v (renA ord c) := by
  by_cases hc : ∃ l, c = .agg l
  · obtain ⟨l, rfl⟩ := hc
    obtain ⟨cs, rfl, hl, hx⟩ := hr
    simp only [renA]
    cases hd : ((l.map (ren1 ord)).any V.isDead) with
    | true => exact trivial
    | false =>
      refine ⟨cs, rfl, by simpa using hl, fun j x c hj hc => ?_⟩
      rw [List.getElem?_map, Option.map_eq_some_iff] at hc
      obtain ⟨d, hd', rfl⟩ := hc
      refine ⟨fun e => ?_, ren1_sound h (hx j x d hj hd').2⟩
      rw [List.any_eq_false] at hd
      have := hd (ren1 ord d) (List.mem_map_of_mem (List.mem_of_getElem? hd'))
      rw [e] at this
      simp [V.isDead] at this
  · have hn : ∀ l, c ≠ .agg l := fun l e => hc ⟨l, e⟩
    rw [rta_eq hn] at hr
    have e : renA ord c = ren1 ord c := by
      cases c with
      | agg l => exact absurd rfl (hn l)
      | _ => rfl
    rw [e]
    have := ren1_sound h hr
    by_cases ht : ∃ l, c = .tup l
    · obtain ⟨l, rfl⟩ := ht
      exact absurd (show RepL S w v (.tup l) from hr) (fun h => by cases h)
    · exact .of_rt this (ren1_shape c hn (fun l e => ht ⟨l, e⟩)).1
theorem renV_sound {ord : List Nat} (h : Ren M M' T T' ord) {v : Value} {c : V} (hr : RTV S w T M v c) : RTV S w T' M' v (renV ord c) := by
  by_cases hc : ∃ l, c = .tup l
  · obtain ⟨l, rfl⟩ := hc
    obtain ⟨cs, rfl, hl, hx⟩ := hr
    simp only [renV]
    refine ⟨cs, rfl, by simpa using hl, fun j x c hj hc => ?_⟩
    rw [List.getElem?_map, Option.map_eq_some_iff] at hc
    obtain ⟨d, hd', rfl⟩ := hc
    exact renA_sound h (hx j x d hj hd')
  · have hn : ∀ l, c ≠ .tup l := fun l e => hc ⟨l, e⟩
    rw [rtv_eq hn] at hr
    have e : renV ord c = renA ord c := by
      cases c with
      | tup l => exact absurd rfl (hn l)
      | _ => rfl
    rw [e]
    refine .of_rta (renA_sound h hr) (fun l e => ?_)
    cases c with
    | agg l =>
      simp only [renA] at e
      cases hd : ((l.map (ren1 ord)).any V.isDead) <;> rw [hd] at e <;> simp at e
    | tup l => exact absurd rfl (hn l)
    | rs id => exact (ren1_shape (ord := ord) (.rs id) (by simp) (by simp)).2 l e
    | pr id off => exact (ren1_shape (ord := ord) (.pr id off) (by simp) (by simp)).2 l e
    | er id i off => exact (ren1_shape (ord := ord) (.er id i off) (by simp) (by simp)).2 l e
    | _ => simp [renA, ren1] at e

theorem renP_sound {ord : List Nat} (h : Ren M M' T T' ord) {id j : Nat} (hj : ord[j]? = some id) {c : V} (hown : ∀ b, own b = some id → own' b = some j) (hp : PR S w T M own id c) : PR S w T' M' own' j (renP ord c) := by
  have eT := h.T j id hj
  cases c with
  | pt l =>
    obtain ⟨b, cs, e, h1, h2, h3, h4, h5⟩ := hp
    simp only [renP]
    cases hd : ((l.map (ren1 ord)).all okCell) with
    | false => trivial
    | true =>
      refine ⟨b, cs, e, by rw [eT]; exact h1, h2, by simpa using h3, fun i x c hx hc => ?_, hown b h5⟩
      rw [List.getElem?_map, Option.map_eq_some_iff] at hc
      obtain ⟨d, hd', rfl⟩ := hc
      exact ⟨List.all_eq_true.1 hd _ (List.mem_map_of_mem (List.mem_of_getElem? hd')), ren1_sound h (h4 i x d hx hd').2⟩
  | sl o ar =>
    cases o with
    | true =>
      refine ⟨by rw [eT]; exact hp.1, fun b hb => hown b (hp.2 b ?_)⟩
      rw [eT] at hb; exact hb
    | false =>
      show RepL S w (T' j) _
      rw [eT]; exact hp
  | pv l off =>
    obtain ⟨h0, b, h1, h2⟩ := hp
    exact ⟨h0, b, by rw [eT]; exact h1, by rw [eT]; exact h2⟩
  | dead => trivial
  | bool b => exact hp.elim
  | int k n => exact hp.elim
  | str s => exact hp.elim
  | nils => exact hp.elim
  | nilp => exact hp.elim
  | nilf => exact hp.elim
  | agg l => exact hp.elim
  | tup l => exact hp.elim
  | fn f cap => exact hp.elim
  | rs id => exact hp.elim
  | pr id off => exact hp.elim
  | er id i off => exact hp.elim

/-- new numbers -/
theorem FR.ren (h : FR F S own T s a w) (tmps : List V) (hl : tmps.length = s.tmps.length) (ht : ∀ (t : Nat) c c', s.tmps[t]? = some c → tmps[t]? = some c' → c' = c ∨ c' = .dead) (ord : List Nat) (hn : ord.Nodup) (hr : ∀ id, id ∈ s.roots → id ∈ ord) :
    ∃ own' T', FR F S own' T' { tmps := tmps.map (renV ord), M := ord.map fun id => renP ord (pl s.M id), roots := s.roots.map fun id => (ord.idxOf? id).getD 0 } a w := by
  let T' : Nat → Value := fun j => T (ord.getD j 0)
  let own' : Nat → Option Nat := fun b => (own b).bind fun id => ord.idxOf? id
  have hR : Ren s.M (ord.map fun id => renP ord (pl s.M id)) T T' ord := by
    refine ⟨hn, by simp, fun j id hj => by simp [T', hj], fun j id hj => ?_⟩
    simp [pl, hj]
  refine ⟨own', T', ?_⟩
  refine ⟨by simp [h.len, hl], fun t v c hv hc => ?_, fun j c hc => ?_, h.defers, fun b j hb => ?_, h.slt, h.keep, h.size, h.outside, h.s0, h.sk, h.s0k, by simpa using h.roots.1, fun i j v hi hv => ?_⟩
  · simp only [List.getElem?_map, Option.map_eq_some_iff] at hc
    obtain ⟨d, hd, rfl⟩ := hc
    have hlt : t < s.tmps.length := by rw [← hl]; exact (List.getElem?_eq_some_iff.1 hd).1
    rcases ht t s.tmps[t] d (List.getElem?_eq_getElem hlt) hd with e | e
    · refine renV_sound hR (h.tmps t v d hv ?_)
      rw [e]; exact List.getElem?_eq_getElem hlt
    · subst e; trivial
  · simp only [List.getElem?_map, Option.map_eq_some_iff] at hc
    obtain ⟨id, hj, rfl⟩ := hc
    by_cases hid : id < s.M.length
    · refine renP_sound hR hj (fun b hb => ?_) (h.places id (pl s.M id) (by simp [pl, hid]))
      simp only [own', hb, Option.bind_some]
      exact idxOf_nodup hn hj
    · have : pl s.M id = .dead := by simp [pl, List.getElem?_eq_none (Nat.le_of_not_lt hid)]
      rw [this]; trivial
  · simp only [own', Option.bind_eq_some_iff] at hb
    obtain ⟨id, h1, h2⟩ := hb
    obtain ⟨e1, e2, e3, _⟩ := h.own b id h1
    exact ⟨e1, e2, e3, (hR.idx h2).1⟩
  · simp only [List.getElem?_map, Option.map_eq_some_iff] at hi
    obtain ⟨id, hi, rfl⟩ := hi
    obtain ⟨e1, e2⟩ := h.roots.2 i id v hi hv
    obtain ⟨j, hj⟩ := idxOf_mem (hr id (List.mem_of_getElem? hi))
    rw [hj]
    obtain ⟨h1, h2, _⟩ := hR.idx hj
    exact ⟨by simp only [Option.getD_some]; rw [h2]; exact e1, h1⟩

theorem canon0_sound (h : FR F S own T s a w) (m : Mask) : ∃ own' T', FR F S own' T' (canon0 m s) a w := by
  unfold canon0
  simp only
  have h0 := foldI_ok s.roots [] (by simp)
  have h1 := foldV_ok (killOther m s.tmps) _ h0.1
  have h2 := reachM_ok (M := s.M) ((killOther m s.tmps).foldl reachV (s.roots.foldl addId [])) _ h1.1
  refine FR.ren h (killOther m s.tmps) (by simp [killOther]) (fun t c c' hc hc' => ?_) _ h2.1 (fun id hid => h2.2 id (h1.2 id (h0.2.2 id hid)))
  simp only [killOther, List.getElem?_mapIdx, hc, Option.map_some, Option.some.injEq] at hc'
  split at hc'
  · exact .inl hc'.symm
  · exact .inr hc'.symm

theorem FR.reput (h : FR F S own T s a w) {t : Nat} {c : V} (hc : ∀ v, a.tmps[t]? = some v → RTV S w T s.M v c) : FR F S own T (s.put (some t) c) a w := by
  refine { h with len := by simpa [St.put] using h.len, tmps := fun t' v' c' hv' hc' => ?_ }
  simp only [St.put, List.getElem?_set] at hc'
  split at hc'
  · rename_i e
    subst e
    split at hc'
    · cases hc'
      exact hc v' hv'
    · cases hc'
  · exact h.tmps t' v' c' hv' hc'

theorem freezeTmps_sound : ∀ (m : Mask) (s : St) (S : Nat → Prop) (own : Nat → Option Nat) {K : St → Option R} {r : R}, FR F S own T s a w → freezeTmps m s K = some r →
    ∃ S' own' s', FR F S' own' T s' a w ∧ K s' = some r
  | [], s, S, own, K, r, h, hk => ⟨S, own, s, h, hk⟩
  | (t, false) :: m, s, S, own, K, r, h, hk => freezeTmps_sound m s S own h hk
  | (t, true) :: m, s, S, own, K, r, h, hk => by
    simp only [freezeTmps] at hk
    obtain ⟨S1, own1, M1, c1, f1, k1, r1, hk1⟩ := share_sound h (h.eval (.tmp t)) hk
    refine freezeTmps_sound m _ S1 own1 (f1.reput (t := t) (c := c1) (fun v hv => ?_)) hk1
    have : a.eval (.tmp t) = v := by simp [Act.eval, hv]
    rw [← this]
    exact .of_repA r1

theorem canon_sound (h : FR F S own T s a w) {m : Mask} {K : St → Option R} {r : R} (hk : canon m s K = some r) : HPost F K r a w := by
  rw [canon_eq] at hk
  obtain ⟨S1, own1, s1, f1, hk1⟩ := freezeTmps_sound m s S own h hk
  obtain ⟨own2, T2, f2⟩ := canon0_sound f1 m
  exact ⟨S1, own2, T2, _, f2, hk1⟩
theorem masked_sound (h : FR F S own T s a w) {live : Live} {k : Nat} {c : Code} {K : St → Option R} {r : R} (hk : masked live k c s K = some r) : HPost F K r a w := by
  unfold masked at hk
  split at hk
  · exact canon_sound h hk
  · exact ⟨S, own, T, s, h, hk⟩
theorem maskedX_sound (h : FR F S own T s a w) {live : Live} {id : Option Nat} {K : St → Option R} {r : R} (hk : maskedX live id s K = some r) : HPost F K r a w := by
  unfold maskedX at hk
  split at hk
  · exact canon_sound h hk
  · exact ⟨S, own, T, s, h, hk⟩
end
end Go.Proofs.Ytfkkigbbejhfbaa.Idl
/- The code of a body. -/
namespace Go.Proofs.Ytfkkigbbejhfbaa.Idl
open Go
variable {P : Program}
section
variable {F : Fx} {S S' : Nat → Prop} {own own' : Nat → Option Nat} {T T' : Nat → Value} {s : St} {a : Act} {w w' : World} {M M' : List V} {R : Type}
variable {rd : Option Nat} {nz : Nat}

theorem St.put_get {t : Nat} {c : V} (h : s.get t = c) (hc : c ≠ .dead) : s.put (some t) c = s := by
  have hlt : t < s.tmps.length := by
    rcases Nat.lt_or_ge t s.tmps.length with h' | h'
    · exact h'
    · simp [St.get, List.getElem?_eq_none h'] at h
      exact absurd h.symm hc
  have : s.tmps.set t c = s.tmps := by
    apply List.ext_getElem? 
    intro i
    rw [List.getElem?_set]
    split
    · rename_i e
      subst e
      simp [St.get, List.getElem?_eq_getElem hlt] at h
      simp [List.getElem?_eq_getElem hlt, h, hlt]
    · rfl
  simp [St.put, this]

theorem FR.bool_tmp (h : FR F S own T s a w) {t : Nat} {b : Bool} (hb : s.get t = .bool b) : a.tmps[t]? = some (.bool b) := by
  have h1 := h.eval (.tmp t)
  have h2 : s.eval (.tmp t) = .bool b := hb
  rw [h2] at h1
  have h3 := rtv_bool h1
  have hlt : t < a.tmps.size := by
    rcases Nat.lt_or_ge t a.tmps.size with h' | h'
    · exact h'
    · exfalso
      rw [h.len] at h'
      simp [St.get, List.getElem?_eq_none h'] at hb
  simp only [Act.eval] at h3
  rw [Array.getElem?_eq_getElem hlt]
  rw [Array.getD_eq_getD_getElem?, Array.getElem?_eq_getElem hlt] at h3
  simpa using h3

/-- one that was left out -/
theorem guard_skip {all : List Oper} {o : Oper} (h : FR F S own T s a w) {t : Nat} {want : Bool} (hg : guardTmp all o = some (some (t, want))) (hb : s.get t = .tup []) : Region.wanted o (yielded all.toArray a.tmps) = false := by
  have h1 := h.eval (.tmp t)
  have h2 : s.eval (.tmp t) = .tup [] := hb
  rw [h2] at h1
  obtain ⟨cs, h3, h4, _⟩ := h1
  have h5 : cs = [] := List.eq_nil_of_length_eq_zero h4
  subst h5
  simp only [Act.eval] at h3
  unfold guardTmp at hg
  split at hg
  · simp at hg
  · rename_i j want' e
    split at hg
    · rename_i g hg'
      split at hg
      · rename_i t' ht'
        simp only [Option.some.injEq, Prod.mk.injEq] at hg
        obtain ⟨rfl, rfl⟩ := hg
        have : yielded all.toArray a.tmps j = none := by
          simp only [yielded, List.getElem?_toArray, hg', Option.bind_some, ht']
          rw [Array.getD_eq_getD_getElem?] at h3
          cases e2 : a.tmps[t']? with
          | none => rfl
          | some v =>
            rw [e2] at h3
            simp only [Option.getD_some] at h3
            subst h3; rfl
        simp [Region.wanted, e, this]
      · simp at hg
    · simp at hg

/-- is an operation wanted, the ideal way -/
theorem guard_ok {all : List Oper} {o : Oper} (h : FR F S own T s a w) :
    (guardTmp all o = some none → Region.wanted o (yielded all.toArray a.tmps) = true) ∧
    (∀ t want b, guardTmp all o = some (some (t, want)) → s.get t = .bool b → Region.wanted o (yielded all.toArray a.tmps) = (b == want)) := by
  constructor
  · intro hg
    unfold guardTmp at hg
    split at hg
    · rename_i e; simp [Region.wanted, e]
    · rename_i j want e
      split at hg
      · split at hg <;> simp at hg
      · simp at hg
  · intro t want b hg hb
    unfold guardTmp at hg
    split at hg
    · simp at hg
    · rename_i j want' e
      split at hg
      · rename_i g hg'
        split at hg
        · rename_i t' ht'
          simp only [Option.some.injEq, Prod.mk.injEq] at hg
          obtain ⟨rfl, rfl⟩ := hg
          have := h.bool_tmp hb
          simp [Region.wanted, e, yielded, hg', ht', this]
        · simp at hg
      · simp at hg

theorem iopG_sound {E : Env} {cf : CallF} (hE : EnvOK P E) (hcf : CallsOK P cf) (h : FR F S own T s a w) {all : List Oper} {o : Oper} {K : St → Option R} {r : R} {Q : Exit → Act → World → Prop} (hk : iopG E cf all s o K = some r) :
    if Region.wanted o (yielded all.toArray a.tmps) then o.wpIn (Zr rd) nz P a w (HPost F K r) Q else HPost F K r (a.put o.dst undef) w := by
  obtain ⟨g1, g2⟩ := guard_ok (all := all) (o := o) h
  have skip : K (s.put o.dst (.tup [])) = some r → HPost F K r (a.put o.dst undef) w := fun hk => ⟨S, own, T, _, FR.put h o.dst (c := .tup []) ⟨[], rfl, rfl, fun j x c hx => by simp at hx⟩, hk⟩
  unfold iopG at hk
  split at hk
  · exact absurd hk (by simp)
  · rename_i hg
    rw [if_pos (g1 hg)]
    exact iop_sound hE hcf h o hk
  · rename_i t want hg
    split at hk
    · rename_i b hb
      have e := St.put_get hb (by simp)
      rw [g2 t want b hg hb]
      cases b with
      | true =>
        simp only [cond_true] at hk
        rw [e] at hk
        cases want with
        | true => exact iop_sound hE hcf h o hk
        | false => exact skip hk
      | false =>
        simp only [cond_false] at hk
        rw [e] at hk
        cases want with
        | true => exact skip hk
        | false => exact iop_sound hE hcf h o hk
    · rename_i hb
      rw [guard_skip h hg hb]
      exact skip hk
    · exact absurd hk (by simp)

theorem iops_sound {E : Env} {cf : CallF} (hE : EnvOK P E) (hcf : CallsOK P cf) {all : List Oper} {Q : Exit → Act → World → Prop} {K : St → Option R} {r : R} (hQ : ∀ a w, HPost F K r a w → Q .normal a w) :
    ∀ (os : List Oper) (S : Nat → Prop) (own : Nat → Option Nat) (T : Nat → Value) (s : St) (a : Act) (w : World), FR F S own T s a w → iops E cf all os s K = some r → wpListIn (Zr rd) nz P all.toArray Q os a w
  | [], S, own, T, s, a, w, h, hk => hQ a w ⟨S, own, T, s, h, hk⟩
  | o :: os, S, own, T, s, a, w, h, hk => by
    simp only [iops] at hk
    have h1 := iopG_sound (rd := rd) (nz := nz) hE hcf h (Q := Q) hk
    have next : ∀ a w, HPost F (fun s => iops E cf all os s K) r a w → wpListIn (Zr rd) nz P all.toArray Q os a w := by
      rintro a w ⟨S', own', T', s', h', hk'⟩
      exact iops_sound hE hcf hQ os S' own' T' s' a w h' hk'
    unfold wpListIn
    split
    · rename_i hw
      rw [if_pos hw] at h1
      exact Oper.wpIn_mono next h1
    · rename_i hw
      rw [if_neg hw] at h1
      exact ⟨fun f _ => Zr_fn rd f, next _ _ h1⟩

/-! ## frames, later on -/
def mark (d : Nat) : Deferred := { target := .collected d, args := #[] }
structure Ext (F F' : Fx) : Prop where
  K : ∀ b, F.K b → b < F.w0.heap.size ∧ F'.K b ∧ F'.w0.heap[b]? = F.w0.heap[b]?
  Kb : ∀ b, F'.K b → b < F'.w0.heap.size
  size : F.w0.heap.size ≤ F'.w0.heap.size
  out : F'.w0.os = F.w0.os ∧ F'.w0.tape = F.w0.tape ∧ F'.w0.output = F.w0.output
  s0 : ∀ b, F.S0 b → F'.S0 b
  sk : ∀ b, F'.S0 b → F.S0 b ∨ ¬ F.K b
  s0k : ∀ b, F.S0 b → F.K b
  A : F'.A = F.A
  D : ∃ ds : List Nat, F'.D = ds.map mark ++ F.D ∧ ds.Nodup ∧ ∀ d, d ∈ ds → F.w0.heap.size ≤ d ∧ F'.K d ∧ ¬ F'.S0 d ∧ F'.w0.heap[d]? = some (.deferred (some []))
theorem FR.ext (h : FR F S own T s a w) : Ext F F :=
  ⟨fun b hb => ⟨(h.keep b hb).1, hb, rfl⟩, fun b hb => (h.keep b hb).1, Nat.le_refl _, ⟨rfl, rfl, rfl⟩, fun _ h => h, fun _ h => .inl h, h.s0k, rfl, [], rfl, List.nodup_nil, fun d hd => by cases hd⟩
theorem Ext.trans {F F' F'' : Fx} (h : Ext F F') (g : Ext F' F'') : Ext F F'' := by
  obtain ⟨ds, d1, d2, d3⟩ := h.D
  obtain ⟨es, e1, e2, e3⟩ := g.D
  refine ⟨fun b hb => ?_, g.Kb, Nat.le_trans h.size g.size, ⟨g.out.1.trans h.out.1, g.out.2.1.trans h.out.2.1, g.out.2.2.trans h.out.2.2⟩, fun b hb => g.s0 b (h.s0 b hb), fun b hb => ?_, h.s0k, g.A.trans h.A, es ++ ds, ?_, ?_, fun d hd => ?_⟩
  · obtain ⟨k1, k2, k3⟩ := h.K b hb
    obtain ⟨k4, k5, k6⟩ := g.K b k2
    exact ⟨k1, k5, k6.trans k3⟩
  · rcases g.sk b hb with h1 | h1
    · exact h.sk b h1
    · exact .inr (fun hk => h1 (h.K b hk).2.1)
  · rw [e1, d1, List.map_append, List.append_assoc]
  · rw [List.nodup_append]
    refine ⟨e2, d2, fun x hx y hy e => ?_⟩
    subst e
    have h1 := (e3 x hx).1
    have h2 := (g.K x (d3 x hy).2.1).1
    omega
  · rcases List.mem_append.1 hd with hd | hd
    · obtain ⟨f1, f2, f3, f4⟩ := e3 d hd
      exact ⟨Nat.le_trans h.size f1, f2, f3, f4⟩
    · obtain ⟨f1, f2, f3, f4⟩ := d3 d hd
      obtain ⟨g1, g2, g3⟩ := g.K d f2
      refine ⟨f1, g2, fun hs => ?_, g3.trans f4⟩
      rcases g.sk d hs with h1 | h1
      · exact f3 h1
      · exact h1 f2
/-- what stays from now on -/
theorem FR.rebase (h : FR F S own T s a w) {K' : Nat → Prop} {A' : List Value} {D' : List Deferred} {roots' : List Nat} {tm : Array Value}
    (hw : ∀ b, (S b ∨ ∃ id, own b = some id) → w'.heap[b]? = w.heap[b]?) (hsz : w.heap.size ≤ w'.heap.size) (hS : ∀ b, S b → K' b) (hO : ∀ b id, own b = some id → ¬ K' b) (hK : ∀ b, K' b → b < w'.heap.size) (htm : tm = a.tmps)
    (hroots : roots'.length = A'.length ∧ ∀ (i : Nat) id v, roots'[i]? = some id → A'[i]? = some v → T id = v ∧ id < s.M.length) :
    FR ⟨K', w', S, A', D'⟩ S own T { s with roots := roots' } { tmps := tm, defers := D' } w' := by
  subst htm
  have L : Later S S w w' T T s.M s.M := ⟨fun _ h => h, fun b hb => hw b (.inl hb), fun _ _ => rfl, Nat.le_refl _, fun _ o a _ h => ⟨o, a, h, rfl, rfl⟩⟩
  refine ⟨h.len, fun t v c hv hc => (h.tmps t v c hv hc).later L, fun id c hc => (h.places id c hc).later L (List.getElem?_eq_some_iff.1 hc).1 (fun b hb => ⟨hb, hw b (.inr ⟨id, hb⟩)⟩), rfl, fun b id hb => ?_, fun b hb => ?_,
    fun b hb => ⟨hK b hb, rfl⟩, Nat.le_refl _, ⟨rfl, rfl, rfl⟩, fun _ h => h, fun _ h => .inl h, hS, hroots⟩
  · obtain ⟨h1, h2, _, h4⟩ := h.own b id hb
    exact ⟨by omega, h2, hO b id hb, h4⟩
  · have := h.slt b hb; omega
theorem FR.retmp (h : FR F S own T s a w) {ts : List V} {tm : Array Value} (hl : tm.size = ts.length) (ht : ∀ (t : Nat) v c, tm[t]? = some v → ts[t]? = some c → RTV S w T s.M v c) : FR F S own T { s with tmps := ts } { a with tmps := tm } w :=
  ⟨hl, ht, h.places, h.defers, h.own, h.slt, h.keep, h.size, h.outside, h.s0, h.sk, h.s0k, h.roots⟩

/-- what holds where a piece of code is left -/
def ExPost (F : Fx) (K : Ex → St → Option R) (r : R) : Exit → Act → World → Prop
  | .normal, a, w => ∃ F', Ext F F' ∧ HPost F' (K .normal) r a w
  | .exit id, a, w => ∃ F', Ext F F' ∧ HPost F' (K (.exit id)) r a w
  | .ret, a, w => ∃ F', Ext F F' ∧ HPost F' (K .ret) r a w
  | _, _, _ => False
theorem ExPost.up {F F1 : Fx} (g : Ext F F1) {K : Ex → St → Option R} {r : R} {e : Exit} {a : Act} {w : World} (h : ExPost F1 K r e a w) : ExPost F K r e a w := by
  cases e with
  | normal => obtain ⟨F2, h1, h2⟩ := h; exact ⟨F2, g.trans h1, h2⟩
  | ret => obtain ⟨F2, h1, h2⟩ := h; exact ⟨F2, g.trans h1, h2⟩
  | exit id => obtain ⟨F2, h1, h2⟩ := h; exact ⟨F2, g.trans h1, h2⟩
  | goto l => exact h
  | panic ch => exact h
  | outgrown => exact h

/-- a region whose order is drawn -/
def DrawOK (P : Program) (E : Env) (cf : CallF) : Prop :=
  ∀ (R : Type) (rd : Option Nat) (nz : Nat) (F : Fx) (S : Nat → Prop) (own : Nat → Option Nat) (T : Nat → Value) (s : St) (a : Act) (w : World) (K : St → Option R) (r : R) (id : Nat) (ops : Array Oper), FR F S own T s a w → iregion E cf ops true s K = some r →
    (Code.region id ops true).wpIn (Zr rd) nz P (fun e a w => e = .normal ∧ HPost F K r a w) a w
/-- what an iterator yields -/
def SeqOK (P : Program) (E : Env) : Prop :=
  ∀ (id : Nat) (cap xs : List V), E.seq id cap = some (true, xs) → ∀ (S : Nat → Prop) (w : World) (vals : List Value), vals.length = cap.length → (∀ (j : Nat) x c, vals[j]? = some x → cap[j]? = some c → RepL S w x c) → (∀ b, S b → b < w.heap.size) →
    ∃ fn, P.funcs[id]? = some fn ∧ (fn.name == "runtime.NumGoroutine") = false ∧ fn.body.isSome = true ∧ ∃ ys : Nat → Value, (∀ (j : Nat) c, xs[j]? = some c → RepL S w (ys j) c) ∧
      ∀ (l : Nat) (J : Nat → World → Prop) (W : World), (∀ b, S b → W.heap[b]? = w.heap[b]?) → (∀ j W1, J j W1 → J j W1.drew) →
        (∀ j W1 m, J j W1 → j < xs.length → YieldAt Fence.wide m P l #[ys j] W1 fun e W' => e = .returned (.bool true) ∧ J (j + 1) W' ∧ ∀ b, S b → W'.heap[b]? = W1.heap[b]?) →
        J 0 W → Calls P id (#[.func (.yield l) #[] #[]] ++ vals.toArray) W fun e W' => (∃ v, e = .returned v) ∧ J xs.length W'

theorem World.putObj_size (W : World) (l : Nat) (o : Obj) : (W.putObj l o).heap.size = W.heap.size := by simp [World.putObj]
/-- a round of a loop over a function; what holds between two -/
structure Turn (F : Fx) (S : Nat → Prop) (w : World) (a : Act) (D l : Nat) (rc : Loop) (nr : Nat) (Kj : Fx) (Sj : Nat → Prop) (sj : St) (W : World) : Prop where
  k : ∀ b, F.K b → b < F.w0.heap.size ∧ Kj.K b ∧ W.heap[b]? = F.w0.heap[b]?
  size : w.heap.size ≤ W.heap.size
  out : W.os = F.w0.os ∧ W.tape = F.w0.tape ∧ W.output = F.w0.output
  s0 : ∀ b, F.S0 b → Sj b
  sk : ∀ b, Sj b → F.S0 b ∨ ¬ F.K b
  A : Kj.A.take nr = F.A
  kl : Kj.K l
  kd : Kj.K D
  sl : ¬ Sj l
  sd : ¬ Sj D
  ks : ∀ b, Sj b → Kj.K b
  hl : W.heap[l]? = some (.loop rc)
  hd : W.heap[D]? = some (.deferred (some []))
  ss : ∀ b, S b → Sj b ∧ W.heap[b]? = w.heap[b]?
  w0 : Kj.w0 = W
  S0 : Kj.S0 = Sj
  nr : nr = F.A.length

theorem idx_some {ids : List Nat} {id : Nat} (h : id ∈ ids) : ids.idxOf? id = some (ids.idxOf id) := by
  induction ids with
  | nil => cases h
  | cons x l ih =>
    rw [List.idxOf?_cons, List.idxOf_cons]
    by_cases e : x == id
    · rw [if_pos e, e]; rfl
    · have e2 : (x == id) = false := by simpa using e
      have hm : id ∈ l := by
        rcases List.mem_cons.1 h with rfl | h
        · simp at e
        · exact h
      rw [if_neg e, ih hm, e2]; rfl
theorem ent_rt {Sj S3 : Nat → Prop} {W w4 : World} {Tj T3 : Nat → Value} {Mj M3 : List V} {ids ids3 : List Nat} {v : Value} {c : V} (hok : okEnt c = true) (hcov : ∀ id, (c = .rs id ∨ ∃ off, c = .pr id off) → id ∈ ids) (h : RTV Sj W Tj Mj v c)
    (hS : ∀ b, Sj b → S3 b) (hw : ∀ b, Sj b → w4.heap[b]? = W.heap[b]?) (hlen : ids3.length = ids.length) (hT : ∀ (i : Nat) id k, ids[i]? = some id → ids3[i]? = some k → T3 k = Tj id ∧ k < M3.length) : RTV S3 w4 T3 M3 v (renEnt ids ids3 c) := by
  have at_ : ∀ id, id ∈ ids → ∃ i k, ids.idxOf? id = some i ∧ ids3[i]? = some k ∧ T3 k = Tj id ∧ k < M3.length := by
    intro id hid
    have hi : ids.idxOf id < ids.length := List.idxOf_lt_length_iff.2 hid
    have hk : ids.idxOf id < ids3.length := by omega
    obtain ⟨h1, h2⟩ := hT (ids.idxOf id) id ids3[ids.idxOf id] (by rw [List.getElem?_eq_getElem hi, List.getElem_idxOf]) (List.getElem?_eq_getElem hk)
    exact ⟨_, _, idx_some hid, List.getElem?_eq_getElem hk, h1, h2⟩
  have pl : c.plain = true → (∀ id, c ≠ .rs id) → (∀ id off, c ≠ .pr id off) → c ≠ .dead → renEnt ids ids3 c = c → RTV S3 w4 T3 M3 v (renEnt ids ids3 c) := by
    intro h1 h2 h3 h4 h5
    rw [h5]
    exact .of_repA ((plain_repA h h1).mono hS hw)
  cases c with
  | rs id =>
    obtain ⟨i, k, e1, e2, e3, e4⟩ := at_ id (hcov id (.inl rfl))
    obtain ⟨h1, h2, h3⟩ := (show RT Sj W Tj Mj v (.rs id) from h)
    simp only [renEnt, e1, e2]
    exact ⟨e4, by rw [e3]; exact h2, h3⟩
  | pr id off =>
    obtain ⟨i, k, e1, e2, e3, e4⟩ := at_ id (hcov id (.inr ⟨off, rfl⟩))
    obtain ⟨h1, b, h2, h3⟩ := (show RT Sj W Tj Mj v (.pr id off) from h)
    simp only [renEnt, e1, e2]
    exact ⟨e4, b, by rw [e3]; exact h2, h3⟩
  | dead => trivial
  | agg l => exact pl hok (by simp) (by simp) (by simp) rfl
  | bool b => exact pl rfl (by simp) (by simp) (by simp) rfl
  | int k n => exact pl rfl (by simp) (by simp) (by simp) rfl
  | str s => exact pl rfl (by simp) (by simp) (by simp) rfl
  | nilp => exact pl rfl (by simp) (by simp) (by simp) rfl
  | nilf => exact pl rfl (by simp) (by simp) (by simp) rfl
  | pv l off => exact pl rfl (by simp) (by simp) (by simp) rfl
  | fn f cap => exact pl rfl (by simp) (by simp) (by simp) rfl
  | sl o ar => exact pl hok (by simp) (by simp) (by simp) rfl
  | nils => simp [okEnt, V.plain, V.plain1] at hok
  | tup l => simp [okEnt, V.plain, V.plain1] at hok
  | pt l => simp [okEnt, V.plain, V.plain1] at hok
  | er id i off => simp [okEnt, V.plain, V.plain1] at hok
theorem addId_iff {acc : List Nat} {id x : Nat} : x ∈ addId acc id ↔ x ∈ acc ∨ x = id := by
  unfold addId
  split
  · rename_i h
    rw [List.contains_iff_mem] at h
    constructor
    · exact .inl
    · rintro (h1 | rfl)
      · exact h1
      · exact h
  · simp
theorem entIds_mem (tmps : List V) : ∀ (c : V), c ∈ tmps → ∀ id, (c = .rs id ∨ ∃ off, c = .pr id off) → id ∈ entIds tmps := by
  have gen : ∀ (l : List V) (acc : List Nat), (∀ x, x ∈ acc → x ∈ l.foldl (fun acc v => match v with | .rs id | .pr id _ => addId acc id | _ => acc) acc) ∧
      ∀ c, c ∈ l → ∀ id, (c = .rs id ∨ ∃ off, c = .pr id off) → id ∈ l.foldl (fun acc v => match v with | .rs id | .pr id _ => addId acc id | _ => acc) acc := by
    intro l
    induction l with
    | nil => intro acc; exact ⟨fun x hx => hx, fun c hc => by cases hc⟩
    | cons y l ih =>
      intro acc
      simp only [List.foldl_cons]
      obtain ⟨i1, i2⟩ := ih (match y with | .rs id | .pr id _ => addId acc id | _ => acc)
      refine ⟨fun x hx => i1 x ?_, fun c hc id hid => ?_⟩
      · split
        · exact addId_iff.2 (.inl hx)
        · exact addId_iff.2 (.inl hx)
        · exact hx
      · rcases List.mem_cons.1 hc with rfl | hc
        · refine i1 id ?_
          rcases hid with rfl | ⟨off, rfl⟩
          · exact addId_iff.2 (.inr rfl)
          · exact addId_iff.2 (.inr rfl)
        · exact i2 c hc id hid
  exact fun c hc id hid => (gen tmps []).2 c hc id hid
end
end Go.Proofs.Ytfkkigbbejhfbaa.Idl
/- Loops over functions; code as a whole. -/
namespace Go.Proofs.Ytfkkigbbejhfbaa.Idl
open Go
variable {P : Program}
section
variable {F : Fx} {S S' : Nat → Prop} {own own' : Nat → Option Nat} {T T' : Nat → Value} {s : St} {a : Act} {w w' : World} {M M' : List V} {R : Type}

theorem entIds_of (tmps : List V) : ∀ id, id ∈ entIds tmps → ∃ c, c ∈ tmps ∧ (c = .rs id ∨ ∃ off, c = .pr id off) := by
  have gen : ∀ (l : List V) (acc : List Nat) (x : Nat), x ∈ l.foldl (fun acc v => match v with | .rs id | .pr id _ => addId acc id | _ => acc) acc → x ∈ acc ∨ ∃ c, c ∈ l ∧ (c = .rs x ∨ ∃ off, c = .pr x off) := by
    intro l
    induction l with
    | nil => intro acc x hx; exact .inl hx
    | cons y l ih =>
      intro acc x hx
      simp only [List.foldl_cons] at hx
      rcases ih _ x hx with h | ⟨c, h1, h2⟩
      · split at h
        · rename_i id
          rcases addId_iff.1 h with h | rfl
          · exact .inl h
          · exact .inr ⟨_, by simp, .inl rfl⟩
        · rename_i id off
          rcases addId_iff.1 h with h | rfl
          · exact .inl h
          · exact .inr ⟨_, by simp, .inr ⟨off, rfl⟩⟩
        · exact .inl h
      · exact .inr ⟨c, by simp [h1], h2⟩
  intro id hid
  rcases gen tmps [] id hid with h | h
  · cases h
  · exact h
theorem FR.ent_lt (h : FR F S own T s a w) {id : Nat} (hid : id ∈ entIds s.tmps) : id < s.M.length := by
  obtain ⟨c, hc, hcc⟩ := entIds_of s.tmps id hid
  obtain ⟨i, hi, rfl⟩ := List.getElem_of_mem hc
  have hia : i < a.tmps.size := by rw [h.len]; exact hi
  have := h.tmps i _ _ (Array.getElem?_eq_getElem hia) (List.getElem?_eq_getElem hi)
  rcases hcc with e | ⟨off, e⟩
  · rw [e] at this; exact this.1
  · rw [e] at this; exact this.1

set_option maxHeartbeats 1000000 in
/-- a loop over a function -/
theorem range_sound {E : Env} {cf : CallF} {N : Nat} {live : Live} (hq : SeqOK P E) {x y : Code}
    (ihA : ∀ (rd : Option Nat) (nz : Nat) (F : Fx) (K : Ex → St → Option R) (r : R) (S : Nat → Prop) (own : Nat → Option Nat) (T : Nat → Value) (s : St) (a : Act) (w : World), FR F S own T s a w → iexecB E cf N live x false s K = some r → x.wpIn (Zr rd) nz P (ExPost F K r) a w)
    (ihB : ∀ (rd : Option Nat) (nz : Nat) (F : Fx) (K : Ex → St → Option R) (r : R) (S : Nat → Prop) (own : Nat → Option Nat) (T : Nat → Value) (s : St) (a : Act) (w : World), FR F S own T s a w → iexecB E cf N live y false s K = some r → y.wpIn (Zr rd) nz P (ExPost F K r) a w)
    {g : Operand} {ps : Array Tmp} {q tag : Option Nat} {K : Ex → St → Option R} {r : R} {nz : Nat} (h : FR F S own T s a w)
    (hk : (irange0 E live q g ps s fun xs m p nr s => stop tag (irangeG tag m p nr (fun s K => iexecB E cf N live x false s (onNormal (fun s => iexecB E cf N live y false s K) K)) xs) s K) = some r) :
    (Code.rangeFunc g ps x y).wpIn (Zr none) nz P (ExPost F K r) a w := by
  unfold irange0 at hk
  split at hk
  case h_2 => exact absurd hk (by simp)
  rename_i p hps
  split at hk
  case h_2 => exact absurd hk (by simp)
  rename_i m _
  obtain ⟨S1, own1, T1, s1, h1, hk1⟩ := canon_sound h hk
  dsimp only at hk1
  split at hk1
  case h_2 => exact absurd hk1 (by simp)
  rename_i id cap hev
  split at hk1
  case h_2 => exact absurd hk1 (by simp)
  rename_i xb hxb
  obtain ⟨cb, xs⟩ := xb
  cases cb with
  | false => exact absurd hk1 (by simp)
  | true =>
  have hxs := hxb
  simp only [cond_true, stop_eq] at hk1
  have hfv := h1.eval g
  rw [hev] at hfv
  obtain ⟨vals, hv, hvl, hvr⟩ := fn_rep hfv
  obtain ⟨fn', hf1, hf2, hf3, ys, hys, hseq⟩ := hq id cap xs hxs S1 w vals hvl hvr h1.slt
  have hps' : ps = #[p] := by apply Array.ext'; simpa using hps
  subst hps'
  show (Code.rangeFunc g #[p] x y).wpIn Fence.wide nz P (ExPost F K r) a w
  refine wpIn_rangeFunc ?_
  intro fn hfn
  obtain ⟨rc, hrec⟩ : ∃ rc : LoopState → Option Code → Loop, rc = fun st pe => { state := st, pending := pe, fn, tmps := a.tmps, params := #[p], assign := x, body := y, defers := w.heap.size } := ⟨_, rfl⟩
  obtain ⟨W1, hW1⟩ : ∃ W1, (w.alloc (.deferred (some []))).alloc (.loop (rc .ready none)) = W1 := ⟨_, rfl⟩
  have hL1 : W1.heap[w.heap.size + 1]? = some (.loop (rc .ready none)) := by
    rw [← hW1]; have := World.alloc_heap_new (w.alloc (.deferred (some []))) (.loop (rc .ready none)); rwa [World.size_alloc] at this
  have hK1 : W1.heap[w.heap.size]? = some (.deferred (some [])) := by
    rw [← hW1]; exact (heap_alloc_o _ _ _ (by simp)).trans (World.alloc_heap_new w _)
  have hold : ∀ b, b < w.heap.size → W1.heap[b]? = w.heap[b]? := by
    intro b hb
    rw [← hW1]
    exact (heap_alloc_o _ _ _ (by simp; omega)).trans (heap_alloc_o w _ b hb)
  have hsz : W1.heap.size = w.heap.size + 2 := by rw [← hW1]; simp
  have hout : W1.os = w.os ∧ W1.tape = w.tape ∧ W1.output = w.output := by rw [← hW1]; exact ⟨rfl, rfl, rfl⟩
  have eg : ∀ args w, (callFunc id args).run P w = .ok (.enter id args) w := fun args w => run_enter hf1 hf2 hf3 args w
  have hFw := h1.size
  have hnr := h1.roots.1
  have J0 : ∃ Kj Sj ownj Tj sj, FR Kj Sj ownj Tj sj { tmps := a.tmps, defers := [] } W1 ∧ Turn F S1 w a w.heap.size (w.heap.size + 1) (rc .ready none) s1.roots.length Kj Sj sj W1 ∧
      irangeG tag m p s1.roots.length (fun s K => iexecB E cf N live x false s (onNormal (fun s => iexecB E cf N live y false s K) K)) (xs.drop 0) sj K = some r := by
    have hKb : ∀ b, F.K b → b < w.heap.size := fun b hb => by have := (h1.keep b hb).1; omega
    refine ⟨⟨fun b => F.K b ∨ S1 b ∨ b = w.heap.size ∨ b = w.heap.size + 1, W1, S1, F.A ++ (entIds s1.tmps).map T1, []⟩, S1, own1, T1, { s1 with roots := s1.roots ++ entIds s1.tmps }, ?_, ?_, ?_⟩
    · refine h1.rebase (fun b hb => hold b ?_) (by omega) (fun b hb => .inr (.inl hb)) (fun b id hb hk => ?_) (fun b hb => ?_) rfl ⟨by simp [hnr], fun i id v hi hv => ?_⟩
      · rcases hb with hb | ⟨id, hb⟩
        · exact h1.slt b hb
        · exact (h1.own b id hb).1
      · obtain ⟨o1, o2, o3, _⟩ := h1.own b id hb
        rcases hk with hk | hk | hk | hk
        · exact o3 hk
        · exact o2 hk
        · omega
        · omega
      · rcases hb with hb | hb | hb | hb
        · have := hKb b hb; omega
        · have := h1.slt b hb; omega
        · omega
        · omega
      · by_cases hlt : i < s1.roots.length
        · rw [List.getElem?_append_left hlt] at hi
          rw [List.getElem?_append_left (by omega)] at hv
          exact h1.roots.2 i id v hi hv
        · rw [List.getElem?_append_right (by omega)] at hi
          rw [List.getElem?_append_right (by omega), List.getElem?_map, ← hnr, hi] at hv
          simp only [Option.map_some, Option.some.injEq] at hv
          exact ⟨hv, h1.ent_lt (List.mem_of_getElem? hi)⟩
    · refine ⟨fun b hb => ⟨(h1.keep b hb).1, .inl hb, (hold b (hKb b hb)).trans (h1.keep b hb).2⟩, by omega, ⟨hout.1.trans h1.outside.1, hout.2.1.trans h1.outside.2.1, hout.2.2.trans h1.outside.2.2⟩, h1.s0, h1.sk, by simp [hnr], .inr (.inr (.inr rfl)), .inr (.inr (.inl rfl)),
        fun hs => ?_, fun hs => ?_, fun b hb => .inr (.inl hb), hL1, hK1, fun b hb => ⟨hb, hold b (h1.slt b hb)⟩, rfl, rfl, hnr⟩
      · have := h1.slt _ hs; omega
      · have := h1.slt _ hs; omega
    · rw [List.drop_zero]; exact hk1
  have hcall := hseq (w.heap.size + 1) (fun j W => ∃ Kj Sj ownj Tj sj, FR Kj Sj ownj Tj sj { tmps := a.tmps, defers := [] } W ∧ Turn F S1 w a w.heap.size (w.heap.size + 1) (rc .ready none) s1.roots.length Kj Sj sj W ∧
      irangeG tag m p s1.roots.length (fun s K => iexecB E cf N live x false s (onNormal (fun s => iexecB E cf N live y false s K) K)) (xs.drop j) sj K = some r) W1 (fun b hb => hold b (h1.slt b hb)) ?drew ?round J0
  case drew =>
    rintro j W ⟨Kj, Sj, ownj, Tj, sj, hf, t, hki⟩
    refine ⟨⟨Kj.K, W.drew, Sj, Kj.A, []⟩, Sj, ownj, Tj, sj, hf.rebase (w' := W.drew) (fun b _ => rfl) (Nat.le_refl _) t.ks (fun b id hb => (hf.own b id hb).2.2.1) (fun b hb => by
      have h5 := (hf.keep b hb).1; have h6 := hf.size; show b < W.heap.size; omega) rfl hf.roots, ⟨t.k, t.size, t.out, t.s0, t.sk, t.A, t.kl, t.kd, t.sl, t.sd, t.ks, t.hl, t.hd, t.ss, rfl, rfl, t.nr⟩, hki⟩
  case round =>
    rintro j W m' ⟨Kj, Sj, ownj, Tj, sj, hf, t, hki⟩ hj
    rw [List.drop_eq_getElem_cons hj] at hki
    simp only [irangeG] at hki
    cases hc : (sj.tmps.all okEnt && (entIds sj.tmps).all (sj.roots.drop s1.roots.length).contains && xs[j].plain1) with
    | false => rw [hc] at hki; exact absurd hki (by simp)
    | true =>
      rw [hc, cond_true] at hki
      simp only [Bool.and_eq_true, List.all_eq_true] at hc
      obtain ⟨⟨hok, hcov⟩, _⟩ := hc
      have hlt : w.heap.size + 1 < W.heap.size := (Array.getElem?_eq_some_iff.1 t.hl).1
      have hy := run_yield (P := P) (args := #[ys j]) t.hl (by rw [hrec]; rfl)
      rw [hrec] at hy
      have hy' : (Instr.yield (w.heap.size + 1) #[ys j]).run P W = .ok (.round (w.heap.size + 1) fn (a.tmps.setIfInBounds p (ys j)) x y) W := by simpa using hy
      refine ⟨fn, _, x, y, hy', roundIn_of_wpIn hfn ?_⟩
      have hrep : RepL Sj W (ys j) xs[j] := (hys j _ (List.getElem?_eq_getElem hj)).mono (fun b hb => (t.ss b hb).1) (fun b hb => (t.ss b hb).2)
      have hA := ihA (some (w.heap.size + 1)) m' Kj _ r Sj ownj Tj _ _ W (hf.put (some p) (RTV.of_rep (T := Tj) (M := sj.M) hrep)) hki
      refine wpIn_mono hA ?_
      rintro e a1 w1 hp
      cases e with
      | ret => obtain ⟨_, _, _, _, _, _, _, hz⟩ := hp; exact absurd hz (by simp [onNormal, onRound])
      | exit i => obtain ⟨_, _, _, _, _, _, _, hz⟩ := hp; exact absurd hz (by simp [onNormal, onRound])
      | goto i => exact hp.elim
      | panic i => exact hp.elim
      | outgrown => exact hp.elim
      | normal =>
        obtain ⟨F1, g1, S2, own2, T2, s2, h2, hk2⟩ := hp
        have hw1 : ∀ b, Kj.K b → w1.heap[b]? = W.heap[b]? := fun b hb => ((h2.keep b (g1.K b hb).2.1).2.trans (g1.K b hb).2.2).trans (by rw [t.w0])
        have hl1 : w1.heap[w.heap.size + 1]? = some (.loop (rc .ready none)) := (hw1 _ t.kl).trans t.hl
        have ns2 : ∀ b, Kj.K b → ¬ Sj b → ¬ S2 b := fun b hb hn hs => by
          rcases h2.sk b hs with h | h
          · rcases g1.sk b h with h | h
            · rw [t.S0] at h; exact hn h
            · exact h hb
          · exact h (g1.K b hb).2.1
        have up2 : ∀ b, Sj b → S2 b := fun b hb => h2.s0 b (g1.s0 b (by rw [t.S0]; exact hb))
        have hlt1 : w.heap.size + 1 < w1.heap.size := (Array.getElem?_eq_some_iff.1 hl1).1
        refine ⟨_, run_beginRound hl1 (by rw [hrec]), ?_⟩
        obtain ⟨w2, hw2e⟩ : ∃ w2, w1.putObj (w.heap.size + 1) (.loop { rc .ready none with state := .busy }) = w2 := ⟨_, rfl⟩
        rw [hw2e]
        have ho2 : ∀ b, b ≠ w.heap.size + 1 → w2.heap[b]? = w1.heap[b]? := fun b hb => by rw [← hw2e]; exact World.putObj_heap_other hb
        have hz2 : w2.heap.size = w1.heap.size := by rw [← hw2e]; exact World.putObj_size _ _ _
        have hb2 : w2.heap[w.heap.size + 1]? = some (.loop { rc .ready none with state := .busy }) := by rw [← hw2e]; exact World.putObj_heap_same hlt1
        have hu2 : w2.os = w1.os ∧ w2.tape = w1.tape ∧ w2.output = w1.output := by rw [← hw2e]; exact ⟨rfl, rfl, rfl⟩
        have hf2 := h2.rebase (w' := w2) (K' := fun b => F1.K b ∨ S2 b) (A' := F1.A) (D' := F1.D) (roots' := s2.roots) (tm := a1.tmps) (fun b hb => ho2 b (by
          rintro rfl
          rcases hb with hb | ⟨id, hb⟩
          · exact ns2 _ t.kl t.sl hb
          · exact (h2.own _ id hb).2.2.1 (g1.K _ t.kl).2.1)) (by omega) (fun b hb => .inr hb) (fun b id hb hk => by
          obtain ⟨_, o2, o3, _⟩ := h2.own b id hb
          rcases hk with hk | hk
          · exact o3 hk
          · exact o2 hk) (fun b hb => by
          rcases hb with hb | hb
          · have h3 := (h2.keep b hb).1; have h4 := h2.size; omega
          · have := h2.slt b hb; omega) rfl h2.roots
        have ea : ({ tmps := a1.tmps, defers := F1.D } : Act) = a1 := by rw [← h2.defers]
        rw [ea] at hf2
        have hB := ihB (some (w.heap.size + 1)) m' _ _ r S2 own2 T2 _ _ w2 hf2 hk2
        refine wpIn_mono hB ?_
        rintro e a3 w3 hp3
        cases e with
        | ret => obtain ⟨_, _, _, _, _, _, _, hz⟩ := hp3; exact absurd hz (by simp [onRound])
        | exit i => obtain ⟨_, _, _, _, _, _, _, hz⟩ := hp3; exact absurd hz (by simp [onRound])
        | goto i => exact hp3.elim
        | panic i => exact hp3.elim
        | outgrown => exact hp3.elim
        | normal =>
          obtain ⟨F3, g3, S3, own3, T3, s3, h3, hk3⟩ := hp3
          have hk3 : canon m { tmps := sj.tmps.map (renEnt (sj.roots.drop s1.roots.length) (s3.roots.drop s1.roots.length)), M := s3.M, roots := s3.roots } _ = some r := hk3
          have hw3 : ∀ b, (F1.K b ∨ S2 b) → w3.heap[b]? = w2.heap[b]? := fun b hb => (h3.keep b (g3.K b hb).2.1).2.trans (g3.K b hb).2.2
          have k1 : ∀ b, Kj.K b → F1.K b := fun b hb => (g1.K b hb).2.1
          have hl3 : w3.heap[w.heap.size + 1]? = some (.loop { rc .ready none with state := .busy }) := (hw3 _ (.inl (k1 _ t.kl))).trans hb2
          have ns3 : ∀ b, Kj.K b → ¬ Sj b → ¬ S3 b := fun b hb hn hs => by
            rcases h3.sk b hs with h | h
            · rcases g3.sk b h with h | h
              · exact ns2 b hb hn h
              · exact h (.inl (k1 b hb))
            · exact h (g3.K b (.inl (k1 b hb))).2.1
          have up3 : ∀ b, Sj b → S3 b := fun b hb => h3.s0 b (g3.s0 b (up2 b hb))
          have hlt3 : w.heap.size + 1 < w3.heap.size := (Array.getElem?_eq_some_iff.1 hl3).1
          have hend := run_endRound (P := P) none hl3
          obtain ⟨w4, hw4e⟩ : ∃ w4, w3.putObj (w.heap.size + 1) (.loop (rc .ready none)) = w4 := ⟨_, rfl⟩
          have hend' : (Instr.endRound (w.heap.size + 1) none).run P w3 = .ok (.bool true) w4 := by rw [hend, ← hw4e, hrec]; rfl
          have ho4 : ∀ b, b ≠ w.heap.size + 1 → w4.heap[b]? = w3.heap[b]? := fun b hb => by rw [← hw4e]; exact World.putObj_heap_other hb
          have hz4 : w4.heap.size = w3.heap.size := by rw [← hw4e]; exact World.putObj_size _ _ _
          have hl4 : w4.heap[w.heap.size + 1]? = some (.loop (rc .ready none)) := by rw [← hw4e]; exact World.putObj_heap_same hlt3
          have hu4 : w4.os = w3.os ∧ w4.tape = w3.tape ∧ w4.output = w3.output := by rw [← hw4e]; exact ⟨rfl, rfl, rfl⟩
          have chain : ∀ b, Kj.K b → b ≠ w.heap.size + 1 → w4.heap[b]? = W.heap[b]? := fun b hb hne => (ho4 b hne).trans ((hw3 b (.inl (k1 b hb))).trans ((ho2 b hne).trans (hw1 b hb)))
          have hwz : W.heap.size ≤ w4.heap.size := by
            have e1 := g1.size
            rw [t.w0] at e1
            have e2 := h2.size
            have e3 : w2.heap.size ≤ F3.w0.heap.size := g3.size
            have e4 := h3.size
            omega
          have chainO : w4.os = W.os ∧ w4.tape = W.tape ∧ w4.output = W.output := by
            obtain ⟨p1, p2, p3⟩ := g1.out
            obtain ⟨q1, q2, q3⟩ := h2.outside
            obtain ⟨r1, r2, r3⟩ := g3.out
            obtain ⟨u1, u2, u3⟩ := h3.outside
            rw [t.w0] at p1 p2 p3
            exact ⟨hu4.1.trans (u1.trans (r1.trans (hu2.1.trans (q1.trans p1)))), hu4.2.1.trans (u2.trans (r2.trans (hu2.2.1.trans (q2.trans p2)))), hu4.2.2.trans (u3.trans (r3.trans (hu2.2.2.trans (q3.trans p3))))⟩
          have k3 : ∀ b, Kj.K b → F3.K b := fun b hb => (g3.K b (.inl (k1 b hb))).2.1
          have eA : F3.A = Kj.A := g3.A.trans g1.A
          have hf4 := h3.rebase (w' := w4) (K' := fun b => F3.K b ∨ S3 b) (A' := F3.A) (D' := []) (roots' := s3.roots) (tm := a3.tmps) (fun b hb => ho4 b (by
            rintro rfl
            rcases hb with hb | ⟨id, hb⟩
            · exact ns3 _ t.kl t.sl hb
            · exact (h3.own _ id hb).2.2.1 (k3 _ t.kl))) (by omega) (fun b hb => .inr hb) (fun b id hb hk => by
            obtain ⟨_, o2, o3, _⟩ := h3.own b id hb
            rcases hk with hk | hk
            · exact o3 hk
            · exact o2 hk) (fun b hb => by
            rcases hb with hb | hb
            · have h5 := (h3.keep b hb).1; have h6 := h3.size; omega
            · have := h3.slt b hb; omega) rfl h3.roots
          have hrl : s3.roots.length = sj.roots.length := by rw [h3.roots.1, eA, ← hf.roots.1]
          have hf5 := hf4.retmp (ts := sj.tmps.map (renEnt (sj.roots.drop s1.roots.length) (s3.roots.drop s1.roots.length))) (tm := a.tmps) (by rw [List.length_map]; exact hf.len) (fun ti v c hv hc => by
            rw [List.getElem?_map, Option.map_eq_some_iff] at hc
            obtain ⟨c0, hc0, rfl⟩ := hc
            have hm0 := List.mem_of_getElem? hc0
            refine ent_rt (hok c0 hm0) (fun id hid => ?_) (hf.tmps ti v c0 hv hc0) up3 (fun b hb => chain b (t.ks b hb) (fun e => t.sl (by rw [← e]; exact hb))) (by rw [List.length_drop, List.length_drop, hrl]) (fun i id k hi hk => ?_)
            · have := hcov id (entIds_mem sj.tmps c0 hm0 id hid)
              rwa [List.contains_iff_mem] at this
            · rw [List.getElem?_drop] at hi hk
              have hia : s1.roots.length + i < Kj.A.length := by rw [← hf.roots.1]; exact (List.getElem?_eq_some_iff.1 hi).1
              have r1 := hf.roots.2 _ id _ hi (List.getElem?_eq_getElem hia)
              have r2 := h3.roots.2 _ k Kj.A[s1.roots.length + i] hk (by rw [eA]; exact List.getElem?_eq_getElem hia)
              exact ⟨r2.1.trans r1.1.symm, r2.2⟩)
          obtain ⟨S5, own5, T5, s5, h5, hk5⟩ := canon_sound hf5 hk3
          simp only [stop_eq] at hk5
          have up5 : ∀ b, Sj b → S5 b := fun b hb => h5.s0 b (up3 b hb)
          have ns5 : ∀ b, Kj.K b → ¬ Sj b → ¬ S5 b := fun b hb hn hs => by
            rcases h5.sk b hs with h | h
            · exact ns3 b hb hn h
            · exact h (.inl (k3 b hb))
          have hFl : ∀ b, F.K b → b ≠ w.heap.size + 1 := fun b hb e => by have := (t.k b hb).1; omega
          refine ⟨_, _, hend', rfl, ⟨⟨fun b => (F3.K b ∨ S3 b) ∨ S5 b, w4, S5, F3.A, []⟩, S5, own5, T5, s5, ?_, ?_, hk5⟩, fun b hb => ?_⟩
          · refine h5.rebase (fun b _ => rfl) (Nat.le_refl _) (fun b hb => .inr hb) (fun b id hb hk => ?_) (fun b hb => ?_) rfl h5.roots
            · obtain ⟨_, o2, o3, _⟩ := h5.own b id hb
              rcases hk with hk | hk
              · exact o3 hk
              · exact o2 hk
            · rcases hb with hb | hb
              · exact (h5.keep b hb).1
              · exact h5.slt b hb
          · refine ⟨fun b hb => ?_, Nat.le_trans t.size hwz, ⟨chainO.1.trans t.out.1, chainO.2.1.trans t.out.2.1, chainO.2.2.trans t.out.2.2⟩, fun b hb => up5 b (t.s0 b hb), fun b hb => ?_, by rw [eA]; exact t.A, .inl (.inl (k3 _ t.kl)), .inl (.inl (k3 _ t.kd)), ns5 _ t.kl t.sl, ns5 _ t.kd t.sd,
              fun b hb => .inr hb, hl4, (chain _ t.kd (by omega)).trans t.hd, fun b hb => ?_, rfl, rfl, t.nr⟩
            · obtain ⟨c1, c2, c3⟩ := t.k b hb
              exact ⟨c1, .inl (.inl (k3 b c2)), (chain b c2 (hFl b hb)).trans c3⟩
            · rcases Classical.em (F.K b) with hF | hF
              · rcases Classical.em (Sj b) with hS | hS
                · exact t.sk b hS
                · exact absurd hb (ns5 b (t.k b hF).2.1 hS)
              · exact .inr hF
            · obtain ⟨c1, c2⟩ := t.ss b hb
              exact ⟨up5 b c1, (chain b (t.ks b c1) (fun e => t.sl (by rw [← e]; exact c1))).trans c2⟩
          · obtain ⟨c1, c2⟩ := t.ss b hb
            exact chain b (t.ks b c1) (fun e => t.sl (by rw [← e]; exact c1))
  refine ⟨w.heap.size + 1, [{ target := .collected w.heap.size, args := #[] }], W1, { target := .fn (.func id) vals.toArray, args := #[.func (.yield (w.heap.size + 1)) #[] #[]] }, W1, id,
    #[.func (.yield (w.heap.size + 1)) #[] #[]] ++ vals.toArray, W1, ?_, ?_, ?_, ?_, fun hd => (by simp [Fence.wide] at hd), ?_⟩
  · rw [← hW1, hrec]; exact run_enterLoop_outer _ _ _ _ _
  · simp only [resolve, hv]
    simp [go_sem]
  · intro f' hf'; trivial
  · simp [invoke, go_sem, eg]
  · refine ((callsIn_wide (n := nz - 1)).2 hcall).mono ?_
    rintro e W2 ⟨⟨v, rfl⟩, Kj, Sj, ownj, Tj, sj, hf, t, hki⟩
    rw [List.drop_length] at hki
    simp only [irangeG] at hki
    have hlt2 : w.heap.size + 1 < W2.heap.size := (Array.getElem?_eq_some_iff.1 t.hl).1
    refine ⟨none, _, by have := run_endLoop (P := P) t.hl (by rw [hrec]; simp); rw [hrec] at this; exact this, ?_⟩
    obtain ⟨w4, hw4e⟩ : ∃ w4, W2.putObj (w.heap.size + 1) (.loop { rc .ready none with state := .exhausted }) = w4 := ⟨_, rfl⟩
    have hw4e' := hw4e
    rw [hrec] at hw4e'
    rw [hw4e']
    have ho4 : ∀ b, b ≠ w.heap.size + 1 → w4.heap[b]? = W2.heap[b]? := fun b hb => by rw [← hw4e]; exact World.putObj_heap_other hb
    have hz4 : w4.heap.size = W2.heap.size := by rw [← hw4e]; exact World.putObj_size _ _ _
    have hu4 : w4.os = W2.os ∧ w4.tape = W2.tape ∧ w4.output = W2.output := by rw [← hw4e]; exact ⟨rfl, rfl, rfl⟩
    have hKb : ∀ b, (Kj.K b ∨ Sj b) → b < w4.heap.size := fun b hb => by
      rcases hb with hb | hb
      · have h5 := (hf.keep b hb).1; have h6 := hf.size; omega
      · have := hf.slt b hb; omega
    have hfr := hf.rebase (w' := w4) (K' := fun b => Kj.K b ∨ Sj b) (A' := F.A) (D' := mark w.heap.size :: F.D) (roots' := sj.roots.take s1.roots.length) (tm := a.tmps) (fun b hb => ho4 b (by
      rintro rfl
      rcases hb with hb | ⟨id, hb⟩
      · exact t.sl hb
      · exact (hf.own _ id hb).2.2.1 t.kl)) (by omega) (fun b hb => .inr hb) (fun b id hb hk => by
      obtain ⟨_, o2, o3, _⟩ := hf.own b id hb
      rcases hk with hk | hk
      · exact o3 hk
      · exact o2 hk) hKb rfl ⟨by rw [← t.A, List.length_take, List.length_take, hf.roots.1], fun i id v hi hv => by
        rw [← t.A] at hv
        rw [List.getElem?_take] at hi hv
        split at hi
        · rename_i hlt
          rw [if_pos hlt] at hv
          exact hf.roots.2 i id v hi hv
        · cases hi⟩
    have ea : ({ a with defers := [{ target := .collected w.heap.size, args := #[] }] ++ a.defers } : Act) = { tmps := a.tmps, defers := mark w.heap.size :: F.D } := by rw [h1.defers]; rfl
    refine ⟨_, ?_, Sj, ownj, Tj, _, by rw [ea]; exact hfr, hki⟩
    refine ⟨fun b hb => ?_, hKb, ?_, ⟨hu4.1.trans t.out.1, hu4.2.1.trans t.out.2.1, hu4.2.2.trans t.out.2.2⟩, t.s0, t.sk, h1.s0k, rfl, [w.heap.size], rfl, by simp, fun d hd => ?_⟩
    · obtain ⟨c1, c2, c3⟩ := t.k b hb
      exact ⟨c1, .inl c2, (ho4 b (by omega)).trans c3⟩
    · have := t.size
      show F.w0.heap.size ≤ w4.heap.size
      omega
    · rw [List.mem_singleton] at hd
      subst hd
      exact ⟨hFw, .inl t.kd, t.sd, (ho4 _ (by omega)).trans t.hd⟩

theorem iexecB_sound {E : Env} {cf : CallF} (hE : EnvOK P E) (hcf : CallsOK P cf) (hd : DrawOK P E cf) (hq : SeqOK P E) (N : Nat) (live : Live) (c : Code) :
    ∀ (top : Bool) (rd : Option Nat) (nz : Nat) (F : Fx) (K : Ex → St → Option R) (r : R) (S : Nat → Prop) (own : Nat → Option Nat) (T : Nat → Value) (s : St) (a : Act) (w : World), (top = true → rd = none) → FR F S own T s a w → iexecB E cf N live c top s K = some r → c.wpIn (Zr rd) nz P (ExPost F K r) a w := by
  induction c with
  | skip => exact fun top rd nz F K r S own T s a w _ h hk => wpIn_skip ⟨F, h.ext, S, own, T, s, h, hk⟩
  | region id ops draw =>
    intro top rd nz F K r S own T s a w _ h hk
    cases draw with
    | false =>
      refine wpIn_region_list ?_
      have := iops_sound (rd := rd) (nz := nz) (Q := ExPost F K r) (K := K .normal) (all := ops.toList) hE hcf (fun a w hp => ⟨F, h.ext, hp⟩) ops.toList S own T s a w h hk
      simpa using this
    | true =>
      refine wpIn_mono (hd R rd nz F S own T s a w (K .normal) r id ops h hk) ?_
      rintro e a w ⟨rfl, hp⟩
      exact ⟨F, h.ext, hp⟩
  | seq x y ihx ihy =>
    intro top rd nz F K r S own T s a w ht h hk
    refine wpIn_seq ?_
    refine wpIn_mono (ihx top rd nz F _ r S own T s a w ht h hk) ?_
    intro e a w hp
    cases e with
    | normal =>
      obtain ⟨F1, g1, S1, own1, T1, s1, h1, hk1⟩ := hp
      have hk1 : joined live (codeKind x) x (firstReg y) (iexecB E cf N live y top) s1 K = some r := hk1
      rw [joined_eq] at hk1
      obtain ⟨S2, own2, T2, s2, h2, hk2⟩ := masked_sound h1 hk1
      exact wpIn_mono (ihy top rd nz F1 K r S2 own2 T2 s2 a w ht h2 hk2) (fun e a w hp => hp.up g1)
    | exit id => exact hp
    | ret => exact hp
    | goto l => exact hp
    | panic ch => exact hp
    | outgrown => exact hp
  | cond c x y ihx ihy =>
    intro top rd nz F K r S own T s a w ht h hk
    have hk : (match s.eval c with
      | .bool b => cond b (iexecB E cf N live x top s K) (iexecB E cf N live y top s K)
      | _ => none) = some r := hk
    split at hk
    · rename_i b hb
      have hv := h.eval c
      rw [hb] at hv
      refine wpIn_cond (rtv_bool hv) ?_
      cases b with
      | true => exact ihx top rd nz F K r S own T s a w ht h hk
      | false => exact ihy top rd nz F K r S own T s a w ht h hk
    · exact absurd hk (by simp)
  | block id x ih =>
    intro top rd nz F K r S own T s a w ht h hk
    refine wpIn_block (wpIn_mono (ih top rd nz F _ r S own T s a w ht h hk) ?_)
    intro e a w hp
    cases e with
    | normal => exact hp
    | exit i =>
      simp only [Exit.inBlock]
      by_cases hi : i = id
      · rw [if_pos hi]
        obtain ⟨F1, g1, S1, own1, T1, s1, h1, hk1⟩ := hp
        refine ⟨F1, g1, S1, own1, T1, s1, h1, ?_⟩
        simpa [onExit, hi] using hk1
      · rw [if_neg hi]
        obtain ⟨F1, g1, S1, own1, T1, s1, h1, hk1⟩ := hp
        refine ⟨F1, g1, S1, own1, T1, s1, h1, ?_⟩
        simpa [onExit, hi] using hk1
    | ret => exact hp
    | goto l => exact hp
    | panic ch => exact hp
    | outgrown => exact hp
  | loop x ih =>
    intro top rd nz F K r S own T s a w ht h hk
    have hk : (masked live 4 x s fun s => stop (firstReg x) (iloop (firstReg x) (iexecB E cf N live x top) (masked live 4 x) N) s K) = some r := hk
    simp only [stop_eq] at hk
    have rounds : ∀ (n : Nat) (F1 : Fx) (S : Nat → Prop) (own : Nat → Option Nat) (T : Nat → Value) (s : St) (a : Act) (w : World), Ext F F1 → FR F1 S own T s a w → iloop (firstReg x) (iexecB E cf N live x top) (masked live 4 x) n s K = some r → Code.roundsIn (Zr rd) nz P x (ExPost F K r) n a w := by
      intro n
      induction n with
      | zero => intro F1 S own T s a w _ h hk; exact absurd hk (by simp [iloop])
      | succ n ihn =>
        intro F1 S own T s a w g h hk
        simp only [iloop, stop_eq] at hk
        rw [roundsIn_succ]
        refine wpIn_mono (ih top rd nz F1 _ r S own T s a w ht h hk) ?_
        intro e a w hp
        cases e with
        | normal =>
          obtain ⟨F2, g2, S1, own1, T1, s1, h1, hk1⟩ := hp
          obtain ⟨S2, own2, T2, s2, h2, hk2⟩ := masked_sound h1 hk1
          exact ihn F2 S2 own2 T2 s2 a w (g.trans g2) h2 hk2
        | exit id => exact ExPost.up g (show ExPost F1 K r (.exit id) a w from hp)
        | ret => exact ExPost.up g (show ExPost F1 K r .ret a w from hp)
        | goto l => exact hp
        | panic ch => exact hp
        | outgrown => exact hp
    obtain ⟨S1, own1, T1, s1, h1, hk1⟩ := masked_sound h hk
    exact wpIn_loop_rounds N (rounds N F S1 own1 T1 s1 a w h.ext h1 hk1)
  | rangeFunc f ps x y ihx ihy =>
    intro top rd nz F K r S own T s a w ht h hk
    cases top with
    | false => exact absurd (show (none : Option R) = some r from hk) (by simp)
    | true =>
      obtain rfl := ht rfl
      exact range_sound hq (fun rd nz F K r S own T s a w h hk => ihx false rd nz F K r S own T s a w (fun e => by cases e) h hk) (fun rd nz F K r S own T s a w h hk => ihy false rd nz F K r S own T s a w (fun e => by cases e) h hk) h hk
  | exit id =>
    intro top rd nz F K r S own T s a w _ h hk
    have hk : maskedX live (some id) s (K (.exit id)) = some r := hk
    exact wpIn_exit ⟨F, h.ext, maskedX_sound h hk⟩
  | scope x => intro top rd nz F K r S own T s a w _ h hk; exact absurd (show (none : Option R) = some r from hk) (by simp)
  | label l => intro top rd nz F K r S own T s a w _ h hk; exact absurd (show (none : Option R) = some r from hk) (by simp)
  | goto l => intro top rd nz F K r S own T s a w _ h hk; exact absurd (show (none : Option R) = some r from hk) (by simp)
  | ret =>
    intro top rd nz F K r S own T s a w _ h hk
    have hk : maskedX live none s (K .ret) = some r := hk
    exact wpIn_ret ⟨F, h.ext, maskedX_sound h hk⟩
  | refuse why => intro top rd nz F K r S own T s a w _ h hk; exact absurd (show (none : Option R) = some r from hk) (by simp)
end
end Go.Proofs.Ytfkkigbbejhfbaa.Idl
/- A call, from its entry to its return. -/
namespace Go.Proofs.Ytfkkigbbejhfbaa.Idl
open Go
variable {P : Program}
section
variable {F : Fx} {S S' : Nat → Prop} {own own' : Nat → Option Nat} {T T' : Nat → Value} {s : St} {a : Act} {w w' : World} {M M' : List V} {R : Type}

/-- places that hold a callee's object arguments -/
def RootsOK (M : List V) (T : Nat → Value) (roots : List Nat) (vs : List Value) : Prop := roots.length = vs.length ∧ ∀ (i : Nat) id v, roots[i]? = some id → vs[i]? = some v → T id = v ∧ id < M.length
theorem RootsOK.later (L : Later S S' w w' T T' M M') {roots : List Nat} {vs : List Value} (h : RootsOK M T roots vs) : RootsOK M' T' roots vs :=
  ⟨h.1, fun i id v hi hv => by
    obtain ⟨h1, h2⟩ := h.2 i id v hi hv
    exact ⟨by rw [L.hT id h2]; exact h1, Nat.lt_of_lt_of_le h2 L.hM⟩⟩

theorem enterArgs_sound : ∀ (args M : List V) (roots : List Nat) (rv : List Value) (own : Nat → Option Nat) (T : Nat → Value) (vs : List Value) (fps : List (List Nat)), FR F S own T { s with M := M } a w → OwnVs S w vs fps args → Free F S own w fps.flatten → RootsOK M T roots rv →
    ∃ own' T', FR F S own' T' { s with M := (enterArgs args M roots).2.1 } a w ∧ Later S S w w T T' M (enterArgs args M roots).2.1 ∧ (enterArgs args M roots).1.length = args.length ∧
      (∀ (j : Nat) x c, vs[j]? = some x → (enterArgs args M roots).1[j]? = some c → RTV S w T' (enterArgs args M roots).2.1 x c) ∧ RootsOK (enterArgs args M roots).2.1 T' (enterArgs args M roots).2.2 (rv ++ ptVals vs args)
  | [], M, roots, rv, own, T, vs, fps, h, ho, hf, hr => by
    have : vs = [] := List.eq_nil_of_length_eq_zero (by simpa using ho.1)
    subst this
    exact ⟨own, T, h, .refl, rfl, fun j x c hx => by simp at hx, by simpa [enterArgs, ptVals] using hr⟩
  | c :: args, M, roots, rv, own, T, [], fps, h, ho, hf, hr => by have := ho.1; simp at this
  | c :: args, M, roots, rv, own, T, x :: vs, [], h, ho, hf, hr => by have := ho.2.1; simp at this
  | c :: args, M, roots, rv, own, T, x :: vs, f :: fps, h, ho, hf, hr => by
    have hf : Free F S own w (f ++ fps.flatten) := hf
    obtain ⟨own1, T1, f1, k1, r1, hnt⟩ := lay_sound h (ho.2.2 0 x f c rfl rfl rfl) hf.append_left
    have ho' : OwnVs S w vs fps args := ⟨by have := ho.1; simpa using this, by have := ho.2.1; simpa using this, fun j x f c hx hf hc => ho.2.2 (j + 1) x f c hx hf hc⟩
    have hr1 : RootsOK (lay M c).1 T1 (roots ++ rootOf M c) (rv ++ ptVals [x] [c]) := by
      have hr2 := hr.later k1.later
      cases c with
      | pt l =>
        obtain ⟨hlt, b, e1, e2⟩ := (show RT S w T1 (lay M (.pt l)).1 x (.pr (layL M l).1.length 0) from r1)
        refine ⟨by simp [rootOf, ptVals, hr2.1], fun i id v hi hv => ?_⟩
        simp only [rootOf, ptVals] at hi hv
        by_cases hi2 : i < roots.length
        · rw [List.getElem?_append_left hi2] at hi
          rw [List.getElem?_append_left (by rw [← hr2.1]; exact hi2)] at hv
          exact hr2.2 i id v hi hv
        · rw [List.getElem?_append_right (by omega)] at hi
          rw [List.getElem?_append_right (by rw [← hr2.1]; omega), ← hr2.1] at hv
          have h0 : i - roots.length = 0 := by
            have := (List.getElem?_eq_some_iff.1 hi).1
            simpa using this
          rw [h0] at hi hv
          simp at hi hv
          subst hi hv
          exact ⟨by rw [e1, e2], hlt⟩
      | _ => simpa [rootOf, ptVals] using hr2
    obtain ⟨own2, T2, f2, L2, e2, r2, hr2⟩ := enterArgs_sound args (lay M c).1 (roots ++ rootOf M c) (rv ++ ptVals [x] [c]) own1 T1 vs fps f1 ho' (hf.append_right k1.hown) hr1
    refine ⟨own2, T2, f2, k1.later.trans L2, by simp [enterArgs, e2], fun j y d hy hd => ?_, ?_⟩
    · cases j with
      | zero =>
        simp [enterArgs] at hy hd
        subst hy hd
        exact .of_rta (r1.later L2) hnt
      | succ j => exact r2 j y d hy (by simpa [enterArgs] using hd)
    · have : ptVals (x :: vs) (c :: args) = ptVals [x] [c] ++ ptVals vs args := by cases c <;> simp [ptVals]
      rw [this, ← List.append_assoc]
      exact hr2

theorem sure_pointer {t : TypeId} {va v : Value} {w' : World} (h : (Instr.loadAt t va).run P w = .ok v w') : ∃ x, va = .pointer (some x) ∧ (loadVar t x).run P w = .ok v w' := by
  unfold Instr.loadAt at h
  cases va with
  | pointer p =>
    cases p with
    | some x => exact ⟨x, rfl, by simpa [Instr.sureAddr] using h⟩
    | none => simp [Instr.sureAddr, runtimePanic, stuck, Sem.run_bind] at h
  | _ => simp [Instr.sureAddr, stuck, Sem.run_bind] at h

def resF (tmps : Array Value) : ResultVar → Sem Value
  | .tmp t => pure (tmps.getD t undef)
  | .cell a t => do loadVar t (← asAddr (tmps.getD a undef))
theorem resOne_sound {E : Env} (hE : EnvOK P E) (h : FR F S own T s a w) {x : ResultVar} {K : V → Option R} {r : R} (hk : resOne E s x K = some r) :
    ∃ v c, (resF a.tmps x).run P w = .ok v w ∧ RTV S w T s.M v c ∧ K c = some r := by
  cases x with
  | tmp t => exact ⟨_, _, rfl, h.eval (.tmp t), hk⟩
  | cell d t =>
    obtain ⟨v, c, hr, hc, hk⟩ := loadV_sound hE h (h.eval (.tmp d)) hk
    obtain ⟨x, hx, hrun⟩ := sure_pointer hr
    refine ⟨v, c, ?_, hc, hk⟩
    have : a.tmps.getD d undef = .pointer (some x) := hx
    simp only [resF, this, asAddr, pure_bind]
    exact hrun
theorem resAll_sound {E : Env} (hE : EnvOK P E) (h : FR F S own T s a w) : ∀ (l : List ResultVar) {K : List V → Option R} {r : R}, resAll E s l K = some r →
    ∃ vs cs, (l.mapM (resF a.tmps)).run P w = .ok vs w ∧ vs.length = cs.length ∧ (∀ (j : Nat) x c, vs[j]? = some x → cs[j]? = some c → RTV S w T s.M x c) ∧ K cs = some r
  | [], K, r, hk => ⟨[], [], rfl, rfl, fun j x c hx => by simp at hx, hk⟩
  | x :: l, K, r, hk => by
    simp only [resAll] at hk
    obtain ⟨v, c, h1, h2, hk⟩ := resOne_sound hE h hk
    obtain ⟨vs, cs, h3, h4, h5, hk⟩ := resAll_sound hE h l hk
    refine ⟨v :: vs, c :: cs, by simp [h1, h3], by simp [h4], fun j y d hy hd => ?_, hk⟩
    cases j with
    | zero => simp at hy hd; subst hy hd; exact h2
    | succ j => exact h5 j y d hy hd
def resVal : List Value → Value
  | [v] => v
  | vs => .tuple vs.toArray
theorem results_run {fn : Func} {tmps : Array Value} {vs : List Value} (h : (fn.results.toList.mapM (resF tmps)).run P w = .ok vs w) :
    (results fn tmps).run P w = .ok (resVal vs) w := by
  have e : results fn tmps = (do let vs ← fn.results.mapM (resF tmps); pure (if h : vs.size = 1 then vs[0] else .tuple vs)) := by
    unfold results
    rfl
  rw [e, Array.mapM_eq_mapM_toList]
  simp only [bind_map_left, Sem.run_bind, h]
  match vs with
  | [] => rfl
  | [v] => rfl
  | v :: u :: vs => simp [resVal]

theorem rtv_root (h : FR F S own T { s with M := M } a w) {id : Nat} (hp : (∃ l, pl M id = .pt l) ∨ ∃ l off, pl M id = .pv l off) : RTV S w T M (T id) (.pr id 0) := by
  rcases hp with ⟨l, hp⟩ | ⟨l, off, hp⟩
  · obtain ⟨b, cs, e, h1, _⟩ := FR.place (s := { s with M := M }) h hp (by simp)
    exact ⟨pl_lt hp (by simp), b, h1, h1⟩
  · obtain ⟨_, b, h1, _⟩ := FR.place (s := { s with M := M }) h hp (by simp)
    exact ⟨pl_lt hp (by simp), b, h1, h1⟩

theorem outsOf_sound : ∀ (ids : List Nat) (M : List V) (own : Nat → Option Nat) (K : List V → Option R) (r : R), FR F S own T { s with M := M } a w → outsOf M ids K = some r →
    ∃ own' M' outs fps, FR F S own' T { s with M := M' } a w ∧ Took F S own own' w T M M' fps.flatten ∧ OwnVs S w (ids.map T) fps outs ∧ K outs = some r
  | [], M, own, K, r, h, hk => ⟨own, M, [], [], h, .nil, ⟨rfl, rfl, fun j x f c hx => by simp at hx⟩, hk⟩
  | id :: ids, M, own, K, r, h, hk => by
    simp only [outsOf] at hk
    have hroot : RTV S w T M (T id) (.pr id 0) := by
      apply rtv_root h
      unfold take at hk
      split at hk
      · rename_i j off e
        cases e
        split at hk
        · rename_i l hpl; exact .inl ⟨l, hpl⟩
        · rename_i l off' hpl; exact .inr ⟨l, off', hpl⟩
        · exact absurd hk (by simp)
      · rename_i l e; cases e
      · rename_i n1 n2; exact absurd rfl (n1 id 0)
    obtain ⟨own1, M1, c1, fp1, f1, k1, r1, hk1⟩ := take_sound h hroot hk
    obtain ⟨own2, M2, outs, fps, f2, k2, r2, hk2⟩ := outsOf_sound ids M1 own1 _ r f1 hk1
    refine ⟨own2, M2, c1 :: outs, fp1 :: fps, f2, k1.trans k2, ⟨by have := r2.1; simp at this; simp [this], by simp [r2.2.1], fun j y f d hy hf hd => ?_⟩, hk2⟩
    cases j with
    | zero => simp at hy hf hd; subst hy hf hd; exact r1
    | succ j => exact r2.2.2 j y f d hy hf hd
end
end Go.Proofs.Ytfkkigbbejhfbaa.Idl
/- A call is what its body computes. -/
namespace Go.Proofs.Ytfkkigbbejhfbaa.Idl
open Go
variable {P : Program}
section
variable {F : Fx} {S S' : Nat → Prop} {own own' : Nat → Option Nat} {T T' : Nat → Value} {s : St} {a : Act} {w w' : World} {M M' : List V} {R : Type}

/-- what is owned, given as shared -/
theorem shared1_sound {v : Value} {f : List Nat} {c : V} (h : OwnL S w v f c) (hS : ∀ b, S b → S' b) (hf : ∀ b, b ∈ f → S' b) : RepL S' w v c.toShared1 := by
  cases c with
  | sl o ar =>
    cases o with
    | true =>
      obtain ⟨h1, h2⟩ := h
      exact (h1.mono (S' := S') hS (fun _ _ => rfl) (fun _ _ => rfl)).share (fun b hb => hf b (by rw [h2, hb]; simp))
    | false => exact h.1.mono hS (fun _ _ => rfl)
  | _ => exact h.1.mono hS (fun _ _ => rfl)
theorem shared1_ne {c : V} : (∀ ar, c.toShared1 ≠ .sl true ar) := by
  intro ar
  cases c <;> simp [V.toShared1]
theorem ownl_of_rep {v : Value} {c : V} (h : RepL S w v c) : OwnL S w v [] c := by
  cases c with
  | sl o ar =>
    cases o with
    | true => cases h
    | false => exact ⟨h, rfl⟩
  | _ => exact ⟨h, rfl⟩
theorem ownv_of_rep {v : Value} {c : V} (h : RepL S w v c) : OwnV S w v [] c := by
  rw [ownv_eq (fun l e => by subst e; cases h) (fun l e => by subst e; cases h)]
  exact ownl_of_rep h

theorem toShared_sound {v : Value} {f : List Nat} {c : V} (h : OwnV S w v f c) (hS : ∀ b, S b → S' b) (hf : ∀ b, b ∈ f → S' b) : OwnV S' w v [] c.toShared := by
  cases c with
  | pt l =>
    obtain ⟨b, cs, e, fps, rfl, h0, h1, h2, h3, rfl, h4⟩ := h
    refine ownv_of_rep ?_
    have hcell : ∀ (j : Nat), w.cell? ⟨b, 0 + j, none⟩ = cs[j]? := by
      intro j
      simp [World.cell?, h0]
    refine .pv b 0 0 (l.map V.toShared1) (fun j => (cs[j]?).getD undef) (hf b (by simp)) (fun j c hc => ?_) (fun j c hc => ?_)
    · have hj : j < cs.length := by rw [h1]; have := (List.getElem?_eq_some_iff.1 hc).1; simpa using this
      rw [hcell, List.getElem?_eq_getElem hj]; rfl
    · have hj : j < l.length := by have := (List.getElem?_eq_some_iff.1 hc).1; simpa using this
      have hjc : j < cs.length := by omega
      have hjf : j < fps.length := by omega
      rw [List.getElem?_map, List.getElem?_eq_getElem hj] at hc
      simp only [Option.map_some, Option.some.injEq] at hc
      subst hc
      rw [List.getElem?_eq_getElem hjc, Option.getD_some]
      refine shared1_sound (h3 j cs[j] fps[j] l[j] (List.getElem?_eq_getElem hjc) (List.getElem?_eq_getElem hjf) (List.getElem?_eq_getElem hj)) hS (fun b hb => hf b ?_)
      exact List.mem_cons_of_mem _ (List.mem_flatten.2 ⟨fps[j], List.getElem_mem hjf, hb⟩)
  | agg l =>
    obtain ⟨cs, fps, rfl, h1, h2, h3, rfl⟩ := h
    refine ⟨cs, List.replicate l.length [], rfl, by simpa using h1, by simp, fun j x f c hx hff hc => ?_, by simp⟩
    have hfe : f = [] := by
      rw [List.getElem?_replicate] at hff
      split at hff
      · exact (Option.some.inj hff).symm
      · cases hff
    subst hfe
    rw [List.getElem?_map, Option.map_eq_some_iff] at hc
    obtain ⟨d, hd, rfl⟩ := hc
    have hj := (List.getElem?_eq_some_iff.1 hd).1
    have hjf : j < fps.length := by omega
    refine ownl_of_rep (shared1_sound (h3 j x fps[j] d hx (List.getElem?_eq_getElem hjf) hd) hS (fun b hb => hf b (List.mem_flatten.2 ⟨fps[j], List.getElem_mem hjf, hb⟩)))
  | sl o ar => exact ownv_of_rep (shared1_sound (c := .sl o ar) h hS hf)
  | dead => exact ownv_of_rep (shared1_sound (c := .dead) h hS hf)
  | bool b => exact ownv_of_rep (shared1_sound (c := .bool b) h hS hf)
  | int k n => exact ownv_of_rep (shared1_sound (c := .int k n) h hS hf)
  | str x => exact ownv_of_rep (shared1_sound (c := .str x) h hS hf)
  | nils => exact ownv_of_rep (shared1_sound (c := .nils) h hS hf)
  | nilp => exact ownv_of_rep (shared1_sound (c := .nilp) h hS hf)
  | nilf => exact ownv_of_rep (shared1_sound (c := .nilf) h hS hf)
  | tup l => exact absurd h.1 (fun h => by cases h)
  | pv l off => exact ownv_of_rep (shared1_sound (c := .pv l off) h hS hf)
  | fn g cap => exact ownv_of_rep (shared1_sound (c := .fn g cap) h hS hf)
  | rs id => exact absurd h.1 (fun h => by cases h)
  | pr id off => exact absurd h.1 (fun h => by cases h)
  | er id i off => exact absurd h.1 (fun h => by cases h)

/-- parts of what was owned, given up -/
def SubF (fps' fps : List (List Nat)) : Prop := fps'.length = fps.length ∧ ∀ (j : Nat) f f', fps[j]? = some f → fps'[j]? = some f' → f'.Sublist f
theorem SubF.flatten : ∀ {fps fps' : List (List Nat)}, SubF fps' fps → fps'.flatten.Sublist fps.flatten
  | [], fps', h => by
    have : fps' = [] := List.eq_nil_of_length_eq_zero (by simpa using h.1)
    subst this; simp
  | f :: fps, [], h => by have := h.1; simp at this
  | f :: fps, f' :: fps', h => by
    show (f' ++ fps'.flatten).Sublist (f ++ fps.flatten)
    exact (h.2 0 f f' rfl rfl).append (SubF.flatten ⟨by have := h.1; simpa using this, fun j g g' hg hg' => h.2 (j + 1) g g' hg hg'⟩)
theorem SubF.drop : ∀ {fps fps' : List (List Nat)}, SubF fps' fps → fps.flatten.Nodup →
    ∀ (j : Nat) f f' b, fps[j]? = some f → fps'[j]? = some f' → b ∈ f → b ∉ f' → b ∉ fps'.flatten
  | [], _, _, _, j, f, f', b, hf, _, _, _ => by simp at hf
  | _ :: _, [], h, _, _, _, _, _, _, _, _, _ => by have := h.1; simp at this
  | f :: fps, f' :: fps', h, hn, j, g, g', b, hg, hg', hb, hb' => by
    have h' : SubF fps' fps := ⟨by have := h.1; simpa using this, fun j g g' hg hg' => h.2 (j + 1) g g' hg hg'⟩
    have hn : (f ++ fps.flatten).Nodup := hn
    rw [List.nodup_append] at hn
    intro hm
    rcases List.mem_append.1 (show b ∈ f' ++ fps'.flatten from hm) with hm | hm
    · cases j with
      | zero => simp at hg hg'; subst hg hg'; exact hb' hm
      | succ j =>
        have hbf : b ∈ fps.flatten := List.mem_flatten.2 ⟨g, List.mem_of_getElem? (by simpa using hg), hb⟩
        exact hn.2.2 b ((h.2 0 f f' rfl rfl).subset hm) b hbf rfl
    · cases j with
      | zero =>
        simp at hg hg'; subst hg hg'
        exact hn.2.2 b hb b (h'.flatten.subset hm) rfl
      | succ j => exact h'.drop hn.2.1 j g g' b (by simpa using hg) (by simpa using hg') hb hb' hm
theorem SubF.refl (fps : List (List Nat)) : SubF fps fps := ⟨rfl, fun j f f' h1 h2 => by rw [h1] at h2; cases h2; exact List.Sublist.refl _⟩
theorem SubF.cons {f f' : List Nat} {fps fps' : List (List Nat)} (h : f'.Sublist f) (h' : SubF fps' fps) : SubF (f' :: fps') (f :: fps) := ⟨by simp [h'.1], fun j g g' hg hg' => by
  cases j with
  | zero => simp at hg hg'; subst hg hg'; exact h
  | succ j => exact h'.2 j g g' (by simpa using hg) (by simpa using hg')⟩

theorem fitC_sound (s : SL) {x : Value} {f : List Nat} {c : V} (h : OwnL S w x f c) :
    ∃ f' : List Nat, f'.Sublist f ∧ ∀ S' : Nat → Prop, (∀ b, S b → S' b) → (∀ b, b ∈ f → b ∉ f' → S' b) → OwnL S' w x f' (fitC s c) := by
  have same : ∃ f' : List Nat, f'.Sublist f ∧ ∀ S' : Nat → Prop, (∀ b, S b → S' b) → (∀ b, b ∈ f → b ∉ f' → S' b) → OwnL S' w x f' c := ⟨f, List.Sublist.refl _, fun S' hS _ => h.mono hS (fun _ _ => rfl) (fun _ _ => rfl)⟩
  unfold fitC
  split
  · rename_i a
    exact ⟨[], by simp, fun S' hS hf => ownl_of_rep (shared1_sound h hS (fun b hb => hf b hb (by simp)))⟩
  · exact same
theorem fitCs_len : ∀ (ss : List SL) (l : List V), (fitCs ss l).length = l.length
  | [], l => by cases l <;> rfl
  | s :: ss, [] => rfl
  | s :: ss, c :: l => by simp [fitCs, fitCs_len ss l]
theorem okP_fitC (s : SL) {c : V} (h : okP c = true) : okP (fitC s c) = true := by
  unfold fitC
  split
  · rfl
  · exact h
theorem okP_fitCs : ∀ (ss : List SL) (l : List V), (∀ (j : Nat) c, l[j]? = some c → okP c = true) → ∀ (j : Nat) c, (fitCs ss l)[j]? = some c → okP c = true
  | [], l, h, j, c, hc => h j c (by cases l <;> exact hc)
  | s :: ss, [], h, j, c, hc => by simp [fitCs] at hc
  | s :: ss, d :: l, h, j, c, hc => by
    cases j with
    | zero => simp [fitCs] at hc; subst hc; exact okP_fitC s (h 0 d rfl)
    | succ j => exact okP_fitCs ss l (fun j c hc => h (j + 1) c hc) j c (by simpa [fitCs] using hc)
theorem fitCs_sound : ∀ (ss : List SL) (l : List V) (cs : List Value) (fps : List (List Nat)), cs.length = l.length → fps.length = l.length →
    (∀ (j : Nat) x f c, cs[j]? = some x → fps[j]? = some f → l[j]? = some c → OwnL S w x f c) →
    ∃ fps' : List (List Nat), SubF fps' fps ∧ ∀ S' : Nat → Prop, (∀ b, S b → S' b) → (∀ (j : Nat) f f' b, fps[j]? = some f → fps'[j]? = some f' → b ∈ f → b ∉ f' → S' b) →
      ∀ (j : Nat) x f c, cs[j]? = some x → fps'[j]? = some f → (fitCs ss l)[j]? = some c → OwnL S' w x f c
  | [], l, cs, fps, _, _, h => ⟨fps, SubF.refl _, fun S' hS _ j x f c hx hf hc => by
      have e : fitCs [] l = l := by cases l <;> rfl
      rw [e] at hc
      exact (h j x f c hx hf hc).mono hS (fun _ _ => rfl) (fun _ _ => rfl)⟩
  | s :: ss, [], cs, fps, _, _, h => ⟨fps, SubF.refl _, fun S' hS _ j x f c hx hf hc => by simp [fitCs] at hc⟩
  | s :: ss, c :: l, [], fps, h1, _, h => by simp at h1
  | s :: ss, c :: l, x :: cs, [], _, h2, h => by simp at h2
  | s :: ss, c :: l, x :: cs, f :: fps, h1, h2, h => by
    obtain ⟨f', k1, k2⟩ := fitC_sound s (h 0 x f c rfl rfl rfl)
    obtain ⟨fps', k3, k4⟩ := fitCs_sound ss l cs fps (by simpa using h1) (by simpa using h2) (fun j x f c hx hf hc => h (j + 1) x f c hx hf hc)
    refine ⟨f' :: fps', k3.cons k1, fun S' hS hb j y g d hy hg hd => ?_⟩
    cases j with
    | zero => simp [fitCs] at hy hg hd; subst hy hg hd; exact k2 S' hS (fun b hbf hbf' => hb 0 f f' b rfl rfl hbf hbf')
    | succ j => exact k4 S' hS (fun j g g' b hg hg' => hb (j + 1) g g' b hg hg') j y g d (by simpa using hy) (by simpa using hg) (by simpa [fitCs] using hd)

theorem fit1_sound (sh : S1) {v : Value} {f : List Nat} {c : V} (h : OwnV S w v f c) (hn : f.Nodup) :
    ∃ f' : List Nat, f'.Sublist f ∧ ∀ S' : Nat → Prop, (∀ b, S b → S' b) → (∀ b, b ∈ f → b ∉ f' → S' b) → OwnV S' w v f' (fit1 sh c) := by
  have same : ∃ f' : List Nat, f'.Sublist f ∧ ∀ S' : Nat → Prop, (∀ b, S b → S' b) → (∀ b, b ∈ f → b ∉ f' → S' b) → OwnV S' w v f' c :=
    ⟨f, List.Sublist.refl _, fun S' hS _ => h.mono hS (fun _ _ => rfl) (fun _ _ => rfl)⟩
  have shar : ∃ f' : List Nat, f'.Sublist f ∧ ∀ S' : Nat → Prop, (∀ b, S b → S' b) → (∀ b, b ∈ f → b ∉ f' → S' b) → OwnV S' w v f' c.toShared :=
    ⟨[], by simp, fun S' hS hf => toShared_sound h hS (fun b hb => hf b hb (by simp))⟩
  unfold fit1
  split
  · exact shar
  · exact shar
  · exact shar
  · rename_i ss l
    obtain ⟨cs, fps, rfl, h1, h2, h3, rfl⟩ := h
    obtain ⟨fps', k1, k2⟩ := fitCs_sound ss l cs fps h1 h2 h3
    exact ⟨fps'.flatten, k1.flatten, fun S' hS hf => ⟨cs, fps', rfl, by rw [fitCs_len]; exact h1, by rw [fitCs_len, k1.1]; exact h2,
      k2 S' hS (fun j g g' b hg hg' hb hb' => hf b (List.mem_flatten.2 ⟨g, List.mem_of_getElem? hg, hb⟩) (k1.drop hn j g g' b hg hg' hb hb')), rfl⟩⟩
  · rename_i ss l
    obtain ⟨b, cs, e, fps, rfl, h0, h1, h2, h3, rfl, h4⟩ := h
    obtain ⟨fps', k1, k2⟩ := fitCs_sound ss l cs fps h1 h2 h3
    have hn' := List.nodup_cons.1 hn
    refine ⟨b :: fps'.flatten, (k1.flatten).cons_cons b, fun S' hS hf => ⟨b, cs, e, fps', rfl, h0, by rw [fitCs_len]; exact h1, by rw [fitCs_len, k1.1]; exact h2,
      k2 S' hS (fun j g g' b' hg hg' hb hb' => ?_), rfl, okP_fitCs ss l h4⟩⟩
    have hm : b' ∈ fps.flatten := List.mem_flatten.2 ⟨g, List.mem_of_getElem? hg, hb⟩
    refine hf b' (List.mem_cons_of_mem _ hm) (fun hx => ?_)
    rcases List.mem_cons.1 hx with hx | hx
    · subst hx; exact hn'.1 hm
    · exact k1.drop hn'.2 j g g' b' hg hg' hb hb' hx
  · exact same

theorem fitL_sound : ∀ (sh : List S1) (vs : List V) (xs : List Value) (fps : List (List Nat)), OwnVs S w xs fps vs → fps.flatten.Nodup →
    ∃ fps' : List (List Nat), SubF fps' fps ∧
      ∀ S' : Nat → Prop, (∀ b, S b → S' b) → (∀ (j : Nat) f f' b, fps[j]? = some f → fps'[j]? = some f' → b ∈ f → b ∉ f' → S' b) → OwnVs S' w xs fps' (fitL sh vs)
  | [], vs, xs, fps, h, _ => ⟨fps, SubF.refl _, fun S' hS _ => by
      have e : fitL [] vs = vs := by cases vs <;> rfl
      rw [e]; exact h.mono hS⟩
  | s :: sh, [], xs, fps, h, _ => ⟨fps, SubF.refl _, fun S' hS _ => by
      have e : fitL (s :: sh) [] = [] := rfl
      rw [e]; exact h.mono hS⟩
  | s :: sh, v :: vs, [], fps, h, _ => by have := h.1; simp at this
  | s :: sh, v :: vs, x :: xs, [], h, _ => by have := h.2.1; simp at this
  | s :: sh, v :: vs, x :: xs, f :: fps, h, hn => by
    have hn2 := List.nodup_append.1 (show (f ++ fps.flatten).Nodup from hn)
    obtain ⟨f', h1, h2⟩ := fit1_sound s (h.2.2 0 x f v rfl rfl rfl) hn2.1
    obtain ⟨fps', h3, h5⟩ := fitL_sound sh vs xs fps ⟨by have := h.1; simpa using this, by have := h.2.1; simpa using this, fun j x f c hx hf hc => h.2.2 (j + 1) x f c hx hf hc⟩ hn2.2.1
    refine ⟨f' :: fps', h3.cons h1, fun S' hS hb => ?_⟩
    have ho := h2 S' hS (fun b hbf hbf' => hb 0 f f' b rfl rfl hbf hbf')
    have hr := h5 S' hS (fun j g g' b hg hg' => hb (j + 1) g g' b hg hg')
    refine ⟨by simp [fitL, hr.1], by simp [fitL, hr.2.1], fun j y g d hy hg hd => ?_⟩
    cases j with
    | zero => simp [fitL] at hy hg hd; subst hy hg hd; exact ho
    | succ j => exact hr.2.2 j y g d hy hg (by simpa [fitL] using hd)

/-- the end of a body: what the callee owes -/
theorem finish_sound {E : Env} (hE : EnvOK P E) {w0 : World} {S0 : Nat → Prop} {fp : List Nat} {A : List Value} {D0 : List Deferred} (hF : F = ⟨fun b => b < w0.heap.size ∧ b ∉ fp, w0, S0, A, D0⟩) (h : FR F S own T s a w) {sg : Sig} {fn : Func} {res : V} {outs : List V}
    (hk : finish E sg fn s = some (res, outs)) : ∃ v S' rfp ofps, (results fn a.tmps).run P w = .ok v w ∧ CallPost S0 S' w0 w fp v res rfp A outs ofps := by
  unfold finish at hk
  obtain ⟨xs, cs, hrun, hlen, hrt, hk⟩ := resAll_sound hE h _ hk
  obtain ⟨own1, M1, vs, fps, f1, k1, e1, e2, r1, hk⟩ := takeAll_sound (s := s) cs s.M own xs _ _ h hlen hrt hk
  obtain ⟨own2, M2, os, ofps, f2, k2, r2, hk⟩ := outsOf_sound s.roots M1 own1 _ _ f1 hk
  have hA : s.roots.map T = A := by
    have hr := h.roots
    rw [hF] at hr
    apply List.ext_getElem?
    intro i
    by_cases hi : i < s.roots.length
    · have hi2 : i < A.length := by rw [← hr.1]; exact hi
      rw [List.getElem?_map, List.getElem?_eq_getElem hi, List.getElem?_eq_getElem hi2]
      simp only [Option.map_some, Option.some.injEq]
      exact (hr.2 i _ _ (List.getElem?_eq_getElem hi) (List.getElem?_eq_getElem hi2)).1
    · rw [List.getElem?_eq_none (by simp; omega), List.getElem?_eq_none (by rw [← hr.1]; omega)]
  have K12 := k1.trans k2
  have hvs : OwnVs S w xs fps vs := ⟨by omega, by omega, r1⟩
  have nK : ∀ b, ¬ F.K b → w0.heap.size ≤ b ∨ b ∈ fp := by
    intro b hb
    rw [hF] at hb
    by_cases hlt : b < w0.heap.size
    · by_cases hm : b ∈ fp
      · exact .inr hm
      · exact absurd ⟨hlt, hm⟩ hb
    · exact .inl (by omega)
  have hres := results_run hrun
  have hall := K12.free
  have hdis := List.nodup_append.1 hall.1
  have hnod : fps.flatten.Nodup := hdis.1
  obtain ⟨ofps', ko1, ko2⟩ := fitL_sound sg.outs os _ ofps r2 hdis.2.1
  have main : ∀ (fps' : List (List Nat)) (v : Value), SubF fps' fps →
      (results fn a.tmps).run P w = .ok v w → (∀ S' : Nat → Prop, (∀ b, S b → S' b) → (∀ (j : Nat) f f' b, fps[j]? = some f → fps'[j]? = some f' → b ∈ f → b ∉ f' → S' b) → OwnT S' w v fps'.flatten res) → outs = fitL sg.outs os →
      ∃ v S' rfp ofps, (results fn a.tmps).run P w = .ok v w ∧ CallPost S0 S' w0 w fp v res rfp A outs ofps := by
    intro fps' v hsub hres hO ho
    subst ho
    have sub1 := hsub.flatten
    have sub2 := ko1.flatten
    let G : Nat → Prop := fun b => S b ∨ b ∈ fps.flatten ++ ofps.flatten ∧ b ∉ fps'.flatten ++ ofps'.flatten
    refine ⟨v, G, fps'.flatten, ofps', hres, ?_⟩
    have hw0 : F.w0 = w0 := by rw [hF]
    have hS0 : F.S0 = S0 := by rw [hF]
    have subs : ∀ b, b ∈ fps'.flatten ++ ofps'.flatten → b ∈ fps.flatten ++ ofps.flatten := fun b hb => by
      rcases List.mem_append.1 hb with hb | hb
      · exact List.mem_append.2 (.inl (sub1.subset hb))
      · exact List.mem_append.2 (.inr (sub2.subset hb))
    refine ⟨fun b hb => .inl (h.s0 b (by rw [hS0]; exact hb)), fun b hb => ?_, fun b hb => ?_, fun b hb hn => ?_, by rw [← hw0]; exact h.size, by rw [← hw0]; exact h.outside, hO G (fun b hb => .inl hb) (fun j f f' b hf hf' hb hb' => ?_), ?_, ?_, fun b hb => ?_⟩
    · rcases hb with hb | ⟨hb, _⟩
      · exact h.slt b hb
      · exact (hall.2 b hb).1
    · rcases hb with hb | ⟨hb, _⟩
      · rcases h.sk b hb with h' | h'
        · exact .inl (by rw [← hS0]; exact h')
        · exact .inr (nK b h')
      · exact .inr (nK b (hall.2 b hb).2.2.1)
    · have := (h.keep b (by rw [hF]; exact ⟨hb, hn⟩)).2
      rw [hw0] at this; exact this
    · have hm : b ∈ fps.flatten := List.mem_flatten.2 ⟨f, List.mem_of_getElem? hf, hb⟩
      refine .inr ⟨List.mem_append.2 (.inl hm), fun hx => ?_⟩
      rcases List.mem_append.1 hx with hx | hx
      · exact hsub.drop hnod j f f' b hf hf' hb hb' hx
      · exact hdis.2.2 b hm b (sub2.subset hx) rfl
    · rw [← hA]
      refine ko2 G (fun b hb => .inl hb) (fun j f f' b hf hf' hb hb' => ?_)
      have hm : b ∈ ofps.flatten := List.mem_flatten.2 ⟨f, List.mem_of_getElem? hf, hb⟩
      refine .inr ⟨List.mem_append.2 (.inr hm), fun hx => ?_⟩
      rcases List.mem_append.1 hx with hx | hx
      · exact hdis.2.2 b (sub1.subset hx) b hm rfl
      · exact ko1.drop hdis.2.1 j f f' b hf hf' hb hb' hx
    · exact (sub1.append sub2).nodup hall.1
    · obtain ⟨e1, e2, e3, _⟩ := hall.2 b (subs b hb)
      exact ⟨e1, fun hs => by rcases hs with hs | ⟨_, hs⟩; exact e2 hs; exact hs hb, nK b e3⟩
  split at hk
  · rename_i sh v hsg _
    simp only [Option.some.injEq, Prod.mk.injEq] at hk
    obtain ⟨rfl, ho⟩ := hk
    obtain ⟨x, rfl⟩ : ∃ x, xs = [x] := by
      match xs, hvs.1 with
      | [x], _ => exact ⟨x, rfl⟩
    obtain ⟨f, rfl⟩ : ∃ f, fps = [f] := by
      match fps, hvs.2.1 with
      | [f], _ => exact ⟨f, rfl⟩
    obtain ⟨f', h1, h2⟩ := fit1_sound sh (hvs.2.2 0 x f v rfl rfl rfl) (by simpa using hnod)
    refine main [f'] x ((SubF.refl []).cons h1) hres (fun S' hS hb => ?_) ho.symm
    have := h2 S' hS (fun b hb1 hb2 => hb 0 f f' b rfl rfl hb1 hb2)
    rw [ownt_eq]
    · simpa using this
    · intro l e
      rw [e] at this
      exact absurd this.1 (fun h => by cases h)
  · rename_i vs _ _ l hsg _
    split at hk
    · exact absurd hk (by simp)
    · rename_i hne
      simp only [Option.some.injEq, Prod.mk.injEq] at hk
      obtain ⟨rfl, ho⟩ := hk
      obtain ⟨fps', h1, h3⟩ := fitL_sound l vs xs fps hvs hnod
      have hv : resVal xs = .tuple xs.toArray := by
        match xs, hvs.1 with
        | [], _ => rfl
        | [x], e => exact absurd (by simpa using e.symm) hne
        | _ :: _ :: _, _ => rfl
      rw [hv] at hres
      refine main fps' _ h1 hres (fun S' hS hb => ?_) ho.symm
      have hO := h3 S' hS hb
      exact ⟨xs, fps', rfl, hO.1, hO.2.1, hO.2.2, rfl⟩
  · exact absurd hk (by simp)

/-- marks are shut -/
def shut (ds : List Nat) (w : World) : World := ds.foldl (fun w d => w.putObj d (.deferred none)) w
theorem shut_other : ∀ (ds : List Nat) (w : World) (b : Nat), b ∉ ds → (shut ds w).heap[b]? = w.heap[b]?
  | [], w, b, _ => rfl
  | d :: ds, w, b, h => by
    simp only [List.mem_cons, not_or] at h
    exact (shut_other ds (w.putObj d (.deferred none)) b h.2).trans (World.putObj_heap_other h.1)
theorem shut_size : ∀ (ds : List Nat) (w : World), (shut ds w).heap.size = w.heap.size
  | [], w => rfl
  | d :: ds, w => (shut_size ds (w.putObj d (.deferred none))).trans (World.putObj_size _ _ _)
theorem shut_out : ∀ (ds : List Nat) (w : World), (shut ds w).os = w.os ∧ (shut ds w).tape = w.tape ∧ (shut ds w).output = w.output
  | [], w => ⟨rfl, rfl, rfl⟩
  | d :: ds, w => shut_out ds (w.putObj d (.deferred none))
theorem leaves_marks {n : Nat} {fn : Func} {tm : Array Value} {Q : Ending → World → Prop} : ∀ (ds : List Nat) (w : World), ds.Nodup → (∀ d, d ∈ ds → w.heap[d]? = some (.deferred (some []))) → (∃ v, (results fn tm).run P (shut ds w) = .ok v (shut ds w) ∧ Q (.returned v) (shut ds w)) →
    LeavesInM Fence.wide n P fn tm Q (ds.map mark) .returning w
  | [], w, _, _, h => h
  | d :: ds, w, hn, hd, h => by
    rw [List.nodup_cons] at hn
    refine ⟨by simp, .inl ⟨d, _, rfl, run_takeDeferred (hd d (by simp)), ?_⟩⟩
    refine leaves_marks ds _ hn.2 (fun e he => ?_) h
    exact (World.putObj_heap_other (fun x => hn.1 (by rw [← x]; exact he))).trans (hd e (by simp [he]))
/-- the frame as it was bound at the entry -/
theorem FR.back {F F' : Fx} (h : FR F' S own T s a w) (g : Ext F F') {ds : List Nat} (hds : F'.D = ds.map mark ++ F.D) (hd : ∀ d, d ∈ ds → F.w0.heap.size ≤ d ∧ F'.K d ∧ ¬ F'.S0 d ∧ F'.w0.heap[d]? = some (.deferred (some []))) :
    FR F S own T s { tmps := a.tmps, defers := F.D } (shut ds w) := by
  have nS : ∀ d, d ∈ ds → ¬ S d := fun d hdd hs => by
    obtain ⟨h1, h2, h3, h4⟩ := hd d hdd
    rcases h.sk d hs with h5 | h5
    · exact h3 h5
    · exact h5 h2
  have nO : ∀ d id, d ∈ ds → own d ≠ some id := fun d id hdd ho => (h.own d id ho).2.2.1 (hd d hdd).2.1
  have hw : ∀ b, (S b ∨ ∃ id, own b = some id) → (shut ds w).heap[b]? = w.heap[b]? := fun b hb => shut_other ds w b (fun hm => by
    rcases hb with hb | ⟨id, hb⟩
    · exact nS b hm hb
    · exact nO b id hm hb)
  have L : Later S S w (shut ds w) T T s.M s.M := ⟨fun _ h => h, fun b hb => hw b (.inl hb), fun _ _ => rfl, Nat.le_refl _, fun _ o a _ h => ⟨o, a, h, rfl, rfl⟩⟩
  obtain ⟨so1, so2, so3⟩ := shut_out ds w
  obtain ⟨o1, o2, o3⟩ := h.outside
  refine ⟨h.len, fun t v c hv hc => (h.tmps t v c hv hc).later L, fun id c hc => (h.places id c hc).later L (List.getElem?_eq_some_iff.1 hc).1 (fun b hb => ⟨hb, hw b (.inr ⟨id, hb⟩)⟩), rfl, fun b id hb => ?_, fun b hb => ?_,
    fun b hb => ?_, ?_, ⟨so1.trans (o1.trans g.out.1), so2.trans (o2.trans g.out.2.1), so3.trans (o3.trans g.out.2.2)⟩, fun b hb => h.s0 b (g.s0 b hb), fun b hb => ?_, g.s0k, by rw [← g.A]; exact h.roots⟩
  · obtain ⟨h1, h2, h3, h4⟩ := h.own b id hb
    exact ⟨by rw [shut_size]; exact h1, h2, fun hk => h3 (g.K b hk).2.1, h4⟩
  · rw [shut_size]; exact h.slt b hb
  · obtain ⟨k1, k2, k3⟩ := g.K b hb
    exact ⟨k1, (shut_other ds w b (fun hm => by have := (hd b hm).1; omega)).trans ((h.keep b k2).2.trans k3)⟩
  · rw [shut_size]; exact Nat.le_trans g.size h.size
  · rcases h.sk b hb with h1 | h1
    · exact g.sk b h1
    · exact .inr (fun hk => h1 (g.K b hk).2.1)
theorem ibody_sound {E : Env} {cf : CallF} (hE : EnvOK P E) (hcf : CallsOK P cf) (hd : DrawOK P E cf) (hq : SeqOK P E) {N : Nat} {live : Live} {f : Nat} {fn : Func} {sg : Sig} (hfn : P.funcs[f]? = some fn) (hb : fn.body.isSome = true) {args : List V} {res : V} {outs : List V}
    (hk : ibody E cf N live sg fn args = some (res, outs)) : CallOK P f args res outs := by
  intro S w vs fps hlt ho hn hfree
  obtain ⟨c, hc⟩ := Option.isSome_iff_exists.1 hb
  have hbody : bodyOf fn = c := by simp [bodyOf, hc]
  let F : Fx := ⟨fun b => b < w.heap.size ∧ b ∉ fps.flatten, w, S, ptVals vs args, []⟩
  let F0 : Fx := ⟨fun b => b < w.heap.size ∧ b ∉ fps.flatten, w, S, [], []⟩
  have h0 : FR F0 S (fun _ => none) (fun _ => undef) { ({ tmps := [], M := [], roots := [] } : St) with M := [] } { tmps := #[], defers := [] } w :=
    ⟨rfl, fun t v c hv => by simp at hv, fun id c hc => by simp at hc, rfl, fun b id hb => by simp at hb, hlt, fun b hb => ⟨hb.1, rfl⟩, Nat.le_refl _, ⟨rfl, rfl, rfl⟩, fun b hb => hb, fun b hb => .inl hb,
      fun b hb => ⟨hlt b hb, fun hm => (hfree b hm).2 hb⟩, rfl, fun i id v hi => by simp at hi⟩
  obtain ⟨own1, T1, f1, L1, e1, r1, hr1⟩ := enterArgs_sound args [] [] [] _ _ vs fps h0 ho ⟨hn, fun b hb => ⟨(hfree b hb).1, (hfree b hb).2, fun hk => hk.2 hb, rfl⟩⟩ ⟨rfl, fun i id v hi => by simp at hi⟩
  have hF : FR F S own1 T1 (enter fn.ntmps args) { tmps := vs.toArray ++ Array.replicate (fn.ntmps - vs.toArray.size) undef, defers := [] } w := by
    refine ⟨?_, fun t v c hv hc => ?_, f1.places, rfl, f1.own, f1.slt, f1.keep, f1.size, f1.outside, f1.s0, f1.sk, f1.s0k, ?_⟩
    · simp [enter, e1, ho.1]
    · simp only [enter] at hc
      by_cases ht : t < args.length
      · rw [List.getElem?_append_left (by rw [e1]; exact ht)] at hc
        rw [Array.getElem?_append_left (by simpa [ho.1] using ht)] at hv
        exact r1 t v c (by simpa using hv) hc
      · rw [List.getElem?_append_right (by rw [e1]; omega), List.getElem?_replicate] at hc
        split at hc
        · cases hc; trivial
        · cases hc
    · have hr2 : RootsOK (enterArgs args [] []).2.1 T1 (enterArgs args [] []).2.2 (ptVals vs args) := by simpa using hr1
      exact hr2
  refine callsIn_wide.1 (callsIn_of_wp_marks (n := 5) (c := c) hfn hc trivial ?_)
  have hx := iexecB_sound hE hcf hd hq N live c true none 5 F (kfin E sg fn) (res, outs) S own1 T1 _ _ _ (fun _ => rfl) hF (by rw [← hbody]; exact hk)
  refine wpIn_mono hx ?_
  intro e a' w' hp
  have fin : ∀ e', (e' = Ex.normal ∨ e' = Ex.ret) → (∃ F', Ext F F' ∧ HPost F' (kfin E sg fn e') (res, outs) a' w') →
      LeavesInM Fence.wide 5 P fn a'.tmps (fun e w' => ∃ v S' rfp ofps, e = .returned v ∧ CallPost S S' w w' fps.flatten v res rfp (ptVals vs args) outs ofps) a'.defers .returning w' := by
    rintro e' he ⟨F', g, S2, own2, T2, s2, f2, hk2⟩
    have hk2 : finish E sg fn s2 = some (res, outs) := by rcases he with rfl | rfl <;> exact hk2
    obtain ⟨ds, d1, d2, d3⟩ := g.D
    have fb := f2.back g d1 d3
    obtain ⟨v, S', rfp, ofps, hrun, hcp⟩ := finish_sound hE rfl fb hk2
    have hdf : a'.defers = ds.map mark := by rw [f2.defers, d1]; exact List.append_nil _
    rw [hdf]
    exact leaves_marks ds w' d2 (fun d hd => (f2.keep d (d3 d hd).2.1).2.trans (d3 d hd).2.2.2) ⟨v, hrun, v, S', rfp, ofps, rfl, hcp⟩
  cases e with
  | normal => exact fin .normal (.inl rfl) hp
  | ret => exact fin .ret (.inr rfl) hp
  | exit id => obtain ⟨_, _, _, _, _, s2, _, hk2⟩ := hp; exact absurd hk2 (by simp [kfin])
  | goto l => exact hp.elim
  | panic ch => exact hp.elim
  | outgrown => exact hp.elim
end
end Go.Proofs.Ytfkkigbbejhfbaa.Idl
/- Whoever asks, the same is handed on: each step of the ideal interpreter is a function, followed by what is to be done with its result. -/
namespace Go.Proofs.Ytfkkigbbejhfbaa.Idl
open Go
section
variable {R : Type}

theorem comp_b {α β R : Type} {f : ∀ R : Type, (α → Option R) → Option R} (hf : ∀ (R : Type) (K : α → Option R), f R K = (f α some).bind K) {g : ∀ R : Type, α → (β → Option R) → Option R}
    (hg : ∀ (a : α) (R : Type) (K : β → Option R), g R a K = (g β a some).bind K) (K : β → Option R) : f R (fun a => g R a K) = (f β (fun a => g β a some)).bind K := by
  rw [hf, hf β]
  cases f α some with
  | none => rfl
  | some a => exact hg a R K
theorem map_b {α β R : Type} {f : ∀ R : Type, (α → Option R) → Option R} (hf : ∀ (R : Type) (K : α → Option R), f R K = (f α some).bind K) (g : α → β) (K : β → Option R) : f R (fun a => K (g a)) = (f β (fun a => some (g a))).bind K :=
  comp_b hf (g := fun R a K => K (g a)) (fun _ _ _ => rfl) K
def some2 {α β : Type} (a : α) (b : β) : Option (α × β) := some (a, b)
def some3 {α β γ : Type} (a : α) (b : β) (c : γ) : Option (α × β × γ) := some (a, b, c)
def un2 {α β R : Type} (K : α → β → Option R) (p : α × β) : Option R := K p.1 p.2
def un3 {α β γ R : Type} (K : α → β → γ → Option R) (p : α × β × γ) : Option R := K p.1 p.2.1 p.2.2

theorem asInt_b {k : IntKind} {v : V} (K : Int → Option R) : v.asInt k K = (v.asInt k some).bind K := by
  unfold V.asInt; ((repeat' split) <;> first | rfl | (simp_all; done))
theorem asBool_b {v : V} (K : Bool → Option R) : v.asBool K = (v.asBool some).bind K := by
  unfold V.asBool; ((repeat' split) <;> first | rfl | (simp_all; done))
theorem asStr_b {v : V} (K : ByteArray → Option R) : v.asStr K = (v.asStr some).bind K := by
  unfold V.asStr; ((repeat' split) <;> first | rfl | (simp_all; done))
theorem as_b {a : Arr V} {e : EK} (K : Arr V → Option R) : a.as e K = (a.as e some).bind K := by
  unfold Arr.as; ((repeat' split) <;> first | rfl | (simp_all; done))
theorem asSl_b {o : Bool} {e : EK} {v : V} (K : Arr V → Option R) : v.asSl o e K = (v.asSl o e some).bind K := by
  unfold V.asSl; (repeat' split) <;> first | rfl | exact as_b K
theorem chk1_b {l : SL} {v : V} (K : V → Option R) : l.chk v K = (l.chk v some).bind K := by
  cases l with
  | any => rfl
  | int k => simp only [SL.chk]; exact map_b (f := fun R K => v.asInt k K) (fun R K => asInt_b K) _ K
  | bool => simp only [SL.chk]; exact map_b (f := fun R K => v.asBool K) (fun R K => asBool_b K) _ K
  | str => simp only [SL.chk]; exact map_b (f := fun R K => v.asStr K) (fun R K => asStr_b K) _ K
  | sl o e => simp only [SL.chk]; exact map_b (f := fun R K => v.asSl o e K) (fun R K => asSl_b K) _ K
theorem chkL_b' : ∀ {l : List SL} {vs : List V} (R : Type) (K : List V → Option R), chkL l vs K = (chkL l vs some).bind K
  | [], [], _, _ => rfl
  | [], _ :: _, _, _ => rfl
  | _ :: _, [], _, _ => rfl
  | l :: ls, v :: vs, R, K => by
    simp only [chkL, seeCons, seeNil]
    exact comp_b (f := fun R K => l.chk v K) (fun R K => chk1_b K) (g := fun R v' K => chkL ls vs fun vs' => K (v' :: vs')) (fun v' R K => map_b (f := fun R K => chkL ls vs K) (fun R K => chkL_b' R K) _ K) K
theorem chkL_b {l : List SL} {vs : List V} (K : List V → Option R) : chkL l vs K = (chkL l vs some).bind K := chkL_b' R K
theorem asPv_b {v : V} (K : List V → Option R) : v.asPv K = (v.asPv some).bind K := by
  unfold V.asPv; (repeat' split) <;> rfl
theorem chkP_b' : ∀ {l : List (List SL)} {vs : List V} (R : Type) (K : List V → Option R), chkP l vs K = (chkP l vs some).bind K
  | [], [], _, _ => rfl
  | [], _ :: _, _, _ => rfl
  | _ :: _, [], _, _ => rfl
  | l :: ls, v :: vs, R, K => by
    simp only [chkP, seeCons, seeNil]
    exact comp_b (f := fun R K => v.asPv K) (fun R K => asPv_b K) (g := fun R v' K => chkL l v' fun l' => chkP ls vs fun vs' => K (.pv l' 0 :: vs'))
      (fun v' R K => comp_b (f := fun R K => chkL l v' K) (fun R K => chkL_b K) (g := fun R l' K => chkP ls vs fun vs' => K (.pv l' 0 :: vs')) (fun l' R K => map_b (f := fun R K => chkP ls vs K) (fun R K => chkP_b' R K) _ K) K) K
theorem chkA_b {l : S1} {v : V} (K : V → Option R) : l.chk v K = (l.chk v some).bind K := by
  cases l with
  | leaf s => exact chk1_b K
  | agg l => 
    simp only [S1.chk, V.asAgg]
    split
    · exact map_b (f := fun R K => chkL l _ K) (fun R K => chkL_b K) _ K
    · rfl
  | pt l =>
    simp only [S1.chk, V.asPt]
    split
    · exact map_b (f := fun R K => chkL l _ K) (fun R K => chkL_b K) _ K
    · rfl
  | pv l =>
    simp only [S1.chk, V.asPv]
    split
    · split
      · exact map_b (f := fun R K => chkL l _ K) (fun R K => chkL_b K) _ K
      · rfl
    · rfl
  | fnp f l =>
    simp only [S1.chk, V.asFn]
    split
    · split
      · exact map_b (f := fun R K => chkP l _ K) (fun R K => chkP_b' R K) _ K
      · rfl
    · rfl
  | pvn l =>
    simp only [S1.chk, V.asPvn]
    split
    · rfl
    · split
      · exact map_b (f := fun R K => chkL l _ K) (fun R K => chkL_b K) _ K
      · rfl
    · rfl
theorem chkL1_b' : ∀ {l : List S1} {vs : List V} (R : Type) (K : List V → Option R), chkL1 l vs K = (chkL1 l vs some).bind K
  | [], [], _, _ => rfl
  | [], _ :: _, _, _ => rfl
  | _ :: _, [], _, _ => rfl
  | l :: ls, v :: vs, R, K => by
    simp only [chkL1, seeCons, seeNil]
    exact comp_b (f := fun R K => l.chk v K) (fun R K => chkA_b K) (g := fun R v' K => chkL1 ls vs fun vs' => K (v' :: vs')) (fun v' R K => map_b (f := fun R K => chkL1 ls vs K) (fun R K => chkL1_b' R K) _ K) K
theorem chkL1_b {l : List S1} {vs : List V} (K : List V → Option R) : chkL1 l vs K = (chkL1 l vs some).bind K := chkL1_b' R K
theorem chkS_b {l : Sh} {v : V} (K : V → Option R) : l.chk v K = (l.chk v some).bind K := by
  cases l with
  | one s => exact chkA_b K
  | tup l =>
    simp only [Sh.chk, V.asTup]
    split
    · exact map_b (f := fun R K => chkL1 l _ K) (fun R K => chkL1_b K) _ K
    · rfl

theorem get_b {a : Arr V} {i : Nat} (K : V → Option R) : a.get i K = (a.get i some).bind K := by
  unfold Arr.get; ((repeat' split) <;> first | rfl | (simp_all; done))
theorem app_b {a b : Arr V} (K : Arr V → Option R) : a.app b K = (a.app b some).bind K := by
  unfold Arr.app; ((repeat' split) <;> first | rfl | (simp_all; done))
theorem set_b {a : Arr V} {i off : Nat} {v : V} (K : Arr V → Option R) : a.set i off v K = (a.set i off v some).bind K := by
  unfold Arr.set; ((repeat' split) <;> first | rfl | (simp_all; done))
theorem intOp_b {op : BinOp} {k : IntKind} {a b : Int} (K : V → Option R) : intOp op k a b K = (intOp op k a b some).bind K := by
  unfold intOp; ((repeat' split) <;> first | rfl | (simp_all; done))
theorem shiftOp_b {op : BinOp} {k : IntKind} {a b : Int} (K : V → Option R) : shiftOp op k a b K = (shiftOp op k a b some).bind K := by
  unfold shiftOp; ((repeat' split) <;> first | rfl | (simp_all; done))
theorem strOp_b {op : BinOp} {a b : ByteArray} (K : V → Option R) : strOp op a b K = (strOp op a b some).bind K := by
  unfold strOp; ((repeat' split) <;> first | rfl | (simp_all; done))
theorem binOpV_b {E : Env} {op : BinOp} {t : Nat} {x y : V} (K : V → Option R) : binOpV E op t x y K = (binOpV E op t x y some).bind K := by
  unfold binOpV; (repeat' split) <;> first | rfl | exact shiftOp_b K | exact intOp_b K | exact strOp_b K | (simp_all; done)
theorem unOpV_b {op : UnOp} {x : V} (K : V → Option R) : unOpV op x K = (unOpV op x some).bind K := by
  unfold unOpV; ((repeat' split) <;> first | rfl | (simp_all; done))
theorem pickV_b {c x y : V} (K : V → Option R) : pickV c x y K = (pickV c x y some).bind K := by
  unfold pickV
  split
  · rename_i b; cases b <;> rfl
  · rfl
theorem fromCells_b {ti : TI} {l : List V} {off : Nat} (K : V → Option R) : fromCells ti l off K = (fromCells ti l off some).bind K := by
  unfold fromCells; ((repeat' split) <;> first | rfl | (simp_all; done))
theorem optInt_b {x : Option V} {d : Int} (K : Int → Option R) : optInt x d K = (optInt x d some).bind K := by
  unfold optInt; ((repeat' split) <;> first | rfl | (simp_all; done))
theorem sliceOf_b {M : List V} {v : V} (K : Arr V → Option R) : sliceOf M v K = (sliceOf M v some).bind K := by
  unfold sliceOf; ((repeat' split) <;> first | rfl | (simp_all; done))
theorem convV_b {E : Env} {M : List V} {s d : Nat} {x : V} (K : V → Option R) : convV E M s d x K = (convV E M s d x some).bind K := by
  unfold convV; ((repeat' split) <;> first | rfl | (simp_all; done))
theorem getChk_b {β : Type} {a : Arr V} {i : Nat} {sh : S1} {g : ∀ R : Type, V → (β → Option R) → Option R} (hg : ∀ (a : V) (R : Type) (K : β → Option R), g R a K = (g β a some).bind K) (K : β → Option R) :
    (a.get i fun v => sh.chk v fun v => g R v K) = (a.get i fun v => sh.chk v fun v => g β v some).bind K :=
  comp_b (f := fun R K => a.get i K) (fun R K => get_b K) (g := fun R v K => sh.chk v fun v => g R v K) (fun v R K => comp_b (f := fun R K => sh.chk v K) (fun R K => chkA_b K) (g := g) hg K) K
theorem loadV_b {E : Env} {M : List V} {t : Nat} {a : V} (K : V → Option R) : loadV E M t a K = (loadV E M t a some).bind K := by
  unfold loadV
  split
  · rfl
  · rename_i ti _
    (repeat' split) <;> first
      | rfl
      | exact fromCells_b K
      | (rename_i off _ _ _ _; exact getChk_b (g := fun R v K => fromCells ti v.cells off K) (fun v R K => fromCells_b K) K)
theorem fieldAddrV_b {E : Env} {M : List V} {t f : Nat} {x : V} (K : V → Option R) : fieldAddrV E M t x f K = (fieldAddrV E M t x f some).bind K := by
  unfold fieldAddrV; ((repeat' split) <;> first | rfl | (simp_all; done))
theorem fieldV_b {E : Env} {t f : Nat} {x : V} (K : V → Option R) : fieldV E t x f K = (fieldV E t x f some).bind K := by
  unfold fieldV; (repeat' split) <;> first | rfl | exact fromCells_b K
theorem indexAddrV_b {E : Env} {M : List V} {t : Nat} {x i : V} (K : V → Option R) : indexAddrV E M t x i K = (indexAddrV E M t x i some).bind K := by
  unfold indexAddrV
  (repeat' split) <;> first
    | rfl
    | exact getChk_b (g := fun R v K => K (.pv v.cells 0)) (fun v R K => rfl) K
theorem indexV_b {E : Env} {t : Nat} {x i : V} (K : V → Option R) : indexV E t x i K = (indexV E t x i some).bind K := by
  unfold indexV; ((repeat' split) <;> first | rfl | (simp_all; done))
theorem cutV_b {te : TI} {a : Arr V} {lo hi mx : Option V} (K : V → Option R) : cutV te a lo hi mx K = (cutV te a lo hi mx some).bind K := by
  unfold cutV
  split
  · rfl
  · refine comp_b (f := fun R K => optInt hi a.len K) (fun R K => optInt_b K) (g := fun R h K => _) (fun h R K => comp_b (f := fun R K => optInt lo 0 K) (fun R K => optInt_b K) (g := fun R l K => _) (fun l R K => comp_b (f := fun R K => optInt mx h K) (fun R K => optInt_b K) (g := fun R m K =>
      if 0 ≤ l ∧ l ≤ h ∧ h ≤ a.len ∧ m = h ∧ a.esz = te.size then K (.sl false (a.cut l.toNat h.toNat)) else none) (fun m R K => by split <;> rfl) K) K) K
theorem sliceV_b {E : Env} {M : List V} {t : Nat} {x : V} {lo hi mx : Option V} (K : V → Option R) : sliceV E M t x lo hi mx K = (sliceV E M t x lo hi mx some).bind K := by
  unfold sliceV
  (repeat' split) <;> first
    | rfl
    | exact cutV_b K
    | skip
  rename_i s _ _
  exact comp_b (f := fun R K => optInt hi s.size K) (fun R K => optInt_b K) (g := fun R h K => optInt lo 0 fun l => if 0 ≤ l ∧ l ≤ h ∧ h ≤ s.size then K (.str (s.extract l.toNat h.toNat)) else none)
    (fun h R K => comp_b (f := fun R K => optInt lo 0 K) (fun R K => optInt_b K) (g := fun R l K => if 0 ≤ l ∧ l ≤ h ∧ h ≤ s.size then K (.str (s.extract l.toNat h.toNat)) else none) (fun l R K => by split <;> rfl) K) K
theorem lenV_b {M : List V} {x : V} (K : V → Option R) : lenV M x K = (lenV M x some).bind K := by
  unfold lenV; ((repeat' split) <;> first | rfl | (simp_all; done))
theorem minInt_b {x y : V} (K : V → Option R) : minInt x y K = (minInt x y some).bind K := by
  unfold minInt; ((repeat' split) <;> first | rfl | (simp_all; done))
theorem maxInt_b {x y : V} (K : V → Option R) : maxInt x y K = (maxInt x y some).bind K := by
  unfold maxInt; ((repeat' split) <;> first | rfl | (simp_all; done))
theorem lend1_b {E : Env} {M : List V} {t : Nat} {v : V} (K : V → Option R) : lend1 E M t v K = (lend1 E M t v some).bind K := by
  unfold lend1; ((repeat' split) <;> first | rfl | (simp_all; done))
theorem lendL_b' {E : Env} {M : List V} : ∀ {l : List V} (R : Type) (K : List V → Option R), lendL M E l K = (lendL M E l some).bind K
  | [], R, K => rfl
  | v :: l, R, K => comp_b (f := fun R K => lend1 E M 0 v K) (fun R K => lend1_b K) (g := fun R v' K => lendL M E l fun vs' => K (v' :: vs')) (fun v' R K => map_b (f := fun R K => lendL M E l K) (fun R K => lendL_b' R K) _ K) K
theorem lendL_b {E : Env} {M : List V} {l : List V} (K : List V → Option R) : lendL M E l K = (lendL M E l some).bind K := lendL_b' R K
theorem lend_b {E : Env} {M : List V} {t : Nat} {v : V} (K : V → Option R) : lend E M t v K = (lend E M t v some).bind K := by
  unfold lend
  split
  · exact map_b (f := fun R K => lendL M E _ K) (fun R K => lendL_b K) _ K
  · exact lend1_b K
theorem lendAll_b' {E : Env} {M : List V} : ∀ {l : List (V × Nat)} (R : Type) (K : List V → Option R), lendAll E M l K = (lendAll E M l some).bind K
  | [], R, K => rfl
  | (v, t) :: l, R, K => comp_b (f := fun R K => lend E M t v K) (fun R K => lend_b K) (g := fun R v' K => lendAll E M l fun vs' => K (v' :: vs')) (fun v' R K => map_b (f := fun R K => lendAll E M l K) (fun R K => lendAll_b' R K) _ K) K
theorem lendAll_b {E : Env} {M : List V} {l : List (V × Nat)} (K : List V → Option R) : lendAll E M l K = (lendAll E M l some).bind K := lendAll_b' R K
theorem partsV_b {E : Env} {fs : List (Nat × Nat)} : ∀ {l : List (Nat × V)} {cs : List V} (K : List V → Option R), partsV E fs l cs K = (partsV E fs l cs some).bind K
  | [], cs, K => rfl
  | (i, v) :: l, cs, K => by
    simp only [partsV]
    (repeat' split) <;> first | rfl | exact partsV_b K
theorem fnOf_b {v : V} {g : ∀ R : Type, Nat → List V → (V → Option R) → Option R} (hg : ∀ f c (R : Type) (K : V → Option R), g R f c K = (g V f c some).bind K) (K : V → Option R) : fnOf v (fun f c => g R f c K) = (fnOf v (fun f c => g V f c some)).bind K := by
  unfold fnOf; split
  · exact hg _ _ R K
  · rfl

theorem ofParts_b {te : TI} : ∀ {R : Type} {l : List (Nat × V)} {i : Nat} (K : List V → Option R), ofParts te l i K = (ofParts te l i some).bind K
  | _, [], i, K => rfl
  | _, (j, v) :: l, i, K => by
    simp only [ofParts]
    split
    · rw [ofParts_b (l := l) (fun vs => K (v :: vs)), ofParts_b (l := l) (fun vs => some (v :: vs))]
      cases ofParts te l (i + 1) some <;> rfl
    · rfl
theorem asInts_b {kk : IntKind} : ∀ {R : Type} {l : List V} (K : List Int → Option R), asInts kk l K = (asInts kk l some).bind K
  | _, [], K => rfl
  | _, v :: l, K => by
    cases v with
    | int k' n =>
      simp only [asInts]
      split
      · rw [asInts_b (l := l) (fun vs => K (n :: vs)), asInts_b (l := l) (fun vs => some (n :: vs))]
        cases asInts kk l some <;> rfl
      · rfl
    | _ => rfl
theorem asBools_b : ∀ {R : Type} {l : List V} (K : List Bool → Option R), asBools l K = (asBools l some).bind K
  | _, [], K => rfl
  | _, v :: l, K => by
    cases v with
    | bool n =>
      simp only [asBools]
      rw [asBools_b (l := l) (fun vs => K (n :: vs)), asBools_b (l := l) (fun vs => some (n :: vs))]
      cases asBools l some <;> rfl
    | _ => rfl
theorem asStrs_b : ∀ {R : Type} {l : List V} (K : List ByteArray → Option R), asStrs l K = (asStrs l some).bind K
  | _, [], K => rfl
  | _, v :: l, K => by
    cases v with
    | str n =>
      simp only [asStrs]
      rw [asStrs_b (l := l) (fun vs => K (n :: vs)), asStrs_b (l := l) (fun vs => some (n :: vs))]
      cases asStrs l some <;> rfl
    | _ => rfl
theorem ofL_b {e : EK} {l : List V} (K : Arr V → Option R) : ofL e l K = (ofL e l some).bind K := by
  unfold ofL; split
  · rename_i k
    exact map_b (f := fun R K => asInts k l K) (fun R K => asInts_b K) (Arr.ints k) K
  · exact map_b (f := fun R K => asBools l K) (fun R K => asBools_b K) Arr.bools K
  · exact map_b (f := fun R K => asStrs l K) (fun R K => asStrs_b K) Arr.strs K
  · rfl
theorem iopS_b {E : Env} {cf : CallF} {M : List V} {ρ : Operand → V} {o : Oper} (K : V → Option R) : iopS E cf M ρ o K = (iopS E cf M ρ o some).bind K := by
  unfold iopS
  cases o.op <;> simp only
  all_goals first
    | rfl
    | exact pickV_b K
    | exact binOpV_b K
    | exact unOpV_b K
    | exact convV_b K
    | exact loadV_b K
    | exact fieldAddrV_b K
    | exact fieldV_b K
    | exact indexAddrV_b K
    | exact indexV_b K
    | exact sliceV_b K
    | skip
  case nilCheck x => (repeat' split) <;> rfl
  case build ty ps => (repeat' split) <;> first | rfl | exact comp_b (f := fun R K => partsV E _ _ _ K) (fun R K => partsV_b K) (g := fun R cs K => K (.agg cs)) (fun cs R K => rfl) K
  case extract x i => (repeat' split) <;> rfl
  case makeFunc f x c => (repeat' split) <;> rfl
  case buildSlice t n ps =>
    split
    · rename_i te _
      refine comp_b (f := fun R K => ofParts te ((ps.toList.map (·.1)).zip (ps.toList.map fun p => ρ p.2)) 0 K) (fun R K => ofParts_b K) (g := fun R vs K => if vs.length = n ∧ n * te.size ≤ 65536 then ofL te.ek vs fun a => K (.sl false a) else none) (fun vs R K => ?_) K
      split
      · exact map_b (f := fun R K => ofL te.ek vs K) (fun R K => ofL_b K) (V.sl false) K
      · rfl
    · rfl
  case call c =>
    split
    · (repeat' split) <;> first
        | rfl
        | exact lenV_b K
        | exact minInt_b K
        | exact maxInt_b K
    · rename_i f _
      unfold fnOf
      split
      · rename_i id cap _
        simp only
        split
        · rename_i sg fn _ _
          refine comp_b (f := fun R K => lendAll E M ((c.args.toList.map ρ).zip (sg.tys fn)) K) (fun R K => lendAll_b K) (g := fun R as K => if c.args.size ≤ fn.params.size ∧ cap.all V.plain1 = true then
            (match cf id (as ++ cap) with
             | some p => sg.res.chk p.1 K
             | none => none) else none) (fun as R K => ?_) K
          split
          · split
            · exact chkS_b K
            · rfl
          · rfl
        · rfl
      · rfl
    · rfl
end
end Go.Proofs.Ytfkkigbbejhfbaa.Idl
/- The same, for operations on places. -/
namespace Go.Proofs.Ytfkkigbbejhfbaa.Idl
open Go
section
variable {R R' : Type} (h : R → Option R')

theorem nat_of {α : Type} {f : ∀ R : Type, (α → Option R) → Option R} (hf : ∀ (R : Type) (K : α → Option R), f R K = (f α some).bind K) (k : α → Option R) : f R' (fun a => (k a).bind h) = (f R k).bind h := by
  rw [hf R', hf R]
  cases f α some <;> rfl

theorem get_n {a : Arr V} {i : Nat} (k : V → Option R) : (a.get i fun v => (k v).bind h) = (a.get i k).bind h := nat_of h (f := fun R K => a.get i K) (fun R K => get_b K) k
theorem app_n {a b : Arr V} (k : Arr V → Option R) : (a.app b fun v => (k v).bind h) = (a.app b k).bind h := nat_of h (f := fun R K => a.app b K) (fun R K => app_b K) k
theorem set_n {a : Arr V} {i off : Nat} {v : V} (k : Arr V → Option R) : (a.set i off v fun v => (k v).bind h) = (a.set i off v k).bind h := nat_of h (f := fun R K => a.set i off v K) (fun R K => set_b K) k
theorem chkS_n {l : Sh} {v : V} (k : V → Option R) : (l.chk v fun v => (k v).bind h) = (l.chk v k).bind h := nat_of h (f := fun R K => l.chk v K) (fun R K => chkS_b K) k
theorem chkL1_n {l : List S1} {v : List V} (k : List V → Option R) : (chkL1 l v fun v => (k v).bind h) = (chkL1 l v k).bind h := nat_of h (f := fun R K => chkL1 l v K) (fun R K => chkL1_b K) k
theorem sliceOf_n {M : List V} {v : V} (k : Arr V → Option R) : (sliceOf M v fun v => (k v).bind h) = (sliceOf M v k).bind h := nat_of h (f := fun R K => sliceOf M v K) (fun R K => sliceOf_b K) k
theorem lend_n {E : Env} {M : List V} {t : Nat} {v : V} (k : V → Option R) : (lend E M t v fun v => (k v).bind h) = (lend E M t v k).bind h := nat_of h (f := fun R K => lend E M t v K) (fun R K => lend_b K) k
theorem sliceV_n {E : Env} {M : List V} {t : Nat} {x : V} {lo hi mx : Option V} (k : V → Option R) : (sliceV E M t x lo hi mx fun v => (k v).bind h) = (sliceV E M t x lo hi mx k).bind h := nat_of h (f := fun R K => sliceV E M t x lo hi mx K) (fun R K => sliceV_b K) k
theorem iopS_n {E : Env} {cf : CallF} {M : List V} {ρ : Operand → V} {o : Oper} (k : V → Option R) : (iopS E cf M ρ o fun v => (k v).bind h) = (iopS E cf M ρ o k).bind h := nat_of h (f := fun R K => iopS E cf M ρ o K) (fun R K => iopS_b K) k

theorem share1_n {M : List V} {v : V} (k : List V → V → Option R) : (share1 M v fun M v => (k M v).bind h) = (share1 M v k).bind h := by
  unfold share1; (repeat' split) <;> rfl
theorem shareL_n : ∀ {R R' : Type} (h : R → Option R') {M l : List V} (k : List V → List V → Option R), (shareL M l fun M v => (k M v).bind h) = (shareL M l k).bind h
  | _, _, h, M, [], k => rfl
  | _, _, h, M, v :: l, k => by simp only [shareL, shareL_n h, share1_n]
theorem share_n {M : List V} {v : V} (k : List V → V → Option R) : (share M v fun M v => (k M v).bind h) = (share M v k).bind h := by
  unfold share; (repeat' split) <;> first | rfl | exact share1_n h k | exact shareL_n h _
theorem shareAll_n : ∀ {R R' : Type} (h : R → Option R') {M l : List V} (k : List V → List V → Option R), (shareAll M l fun M v => (k M v).bind h) = (shareAll M l k).bind h
  | _, _, h, M, [], k => rfl
  | _, _, h, M, v :: l, k => by simp only [shareAll, shareAll_n h, share_n]
theorem take1_n {M : List V} {v : V} (k : List V → V → Option R) : (take1 M v fun M v => (k M v).bind h) = (take1 M v k).bind h := by
  unfold take1; (repeat' split) <;> rfl
theorem takeL_n : ∀ {R R' : Type} (h : R → Option R') {M l : List V} (k : List V → List V → Option R), (takeL M l fun M v => (k M v).bind h) = (takeL M l k).bind h
  | _, _, h, M, [], k => rfl
  | _, _, h, M, v :: l, k => by simp only [takeL, takeL_n h, take1_n]
theorem handArg_n {E : Env} {M : List V} {v : V} {t : Nat} (k : List V → V → List Nat → Option R) : (handArg E M v t fun M v ids => (k M v ids).bind h) = (handArg E M v t k).bind h := by
  unfold handArg; (repeat' split) <;> first | rfl | exact takeL_n h _ | exact lend_n h _
theorem handAll_n {E : Env} : ∀ {R R' : Type} (h : R → Option R') {M : List V} {l : List (V × Nat)} (k : List V → List V → List Nat → Option R), (handAll E M l fun M v ids => (k M v ids).bind h) = (handAll E M l k).bind h
  | _, _, h, M, [], k => rfl
  | _, _, h, M, (v, t) :: l, k => by simp only [handAll, handAll_n h, handArg_n]
theorem backAll_n : ∀ {R R' : Type} (h : R → Option R') {M : List V} {ids : List Nat} {vs : List V} (k : List V → Option R), (backAll M ids vs fun M => (k M).bind h) = (backAll M ids vs k).bind h
  | _, _, h, M, [], [], k => rfl
  | _, _, h, M, [], _ :: _, k => rfl
  | _, _, h, M, id :: ids, [], k => rfl
  | _, _, h, M, id :: ids, v :: vs, k => by
    cases v with
    | pt l => simp only [backAll, backAll_n h]
    | _ => rfl
theorem ofParts_n {te : TI} : ∀ {R R' : Type} (h : R → Option R') {l : List (Nat × V)} {i : Nat} (k : List V → Option R), (ofParts te l i fun M => (k M).bind h) = (ofParts te l i k).bind h
  | _, _, h, [], i, k => rfl
  | _, _, h, (j, v) :: l, i, k => by
    simp only [ofParts]
    split
    · exact ofParts_n h _
    · rfl
theorem asInts_n {kk : IntKind} : ∀ {R R' : Type} (h : R → Option R') {l : List V} (k : List Int → Option R), (asInts kk l fun M => (k M).bind h) = (asInts kk l k).bind h
  | _, _, h, [], k => rfl
  | _, _, h, v :: l, k => by
    cases v with
    | int k' n =>
      simp only [asInts]
      split
      · exact asInts_n h _
      · rfl
    | _ => rfl
theorem asBools_n : ∀ {R R' : Type} (h : R → Option R') {l : List V} (k : List Bool → Option R), (asBools l fun M => (k M).bind h) = (asBools l k).bind h
  | _, _, h, [], k => rfl
  | _, _, h, v :: l, k => by
    cases v with
    | bool n => simp only [asBools]; exact asBools_n h (l := l) _
    | _ => rfl
theorem asStrs_n : ∀ {R R' : Type} (h : R → Option R') {l : List V} (k : List ByteArray → Option R), (asStrs l fun M => (k M).bind h) = (asStrs l k).bind h
  | _, _, h, [], k => rfl
  | _, _, h, v :: l, k => by
    cases v with
    | str n => simp only [asStrs]; exact asStrs_n h (l := l) _
    | _ => rfl
theorem ofL_n {e : EK} {l : List V} (k : Arr V → Option R) : (ofL e l fun M => (k M).bind h) = (ofL e l k).bind h := by
  unfold ofL; split
  · exact asInts_n h _
  · exact asBools_n h _
  · exact asStrs_n h _
  · rfl
theorem zeros_n {te : TI} {n : Nat} (k : Arr V → Option R) : (zeros te n fun M => (k M).bind h) = (zeros te n k).bind h := by
  unfold zeros; (repeat' split) <;> first | rfl | (simp_all; done)
theorem typed_n {E : Env} {M : List V} {t : Nat} {v : V} (k : List V → V → Option R) : (typed E M t v fun M v => (k M v).bind h) = (typed E M t v k).bind h := by
  unfold typed; (repeat' split) <;> rfl
theorem setCells_n {cs vs : List V} {off : Nat} (k : List V → Option R) : (setCells cs off vs fun M => (k M).bind h) = (setCells cs off vs k).bind h := by
  unfold setCells; (repeat' split) <;> rfl
theorem appendV_n {E : Env} {M0 : List V} {t u : Nat} {x y : V} (k : List V → V → Option R) : (appendV E M0 t u x y fun M v => (k M v).bind h) = (appendV E M0 t u x y k).bind h := by
  unfold appendV
  split
  · rfl
  · split
    · rw [← typed_n]
      congr 1
      funext M v
      (repeat' split) <;> first | rfl | skip
      · rw [← sliceOf_n]
        congr 1
        funext b
        split
        · exact app_n h _
        · rfl
      · rw [← sliceOf_n]
        congr 1
        funext b
        split
        · exact app_n h _
        · rfl
    · rfl
theorem cond_bind {α : Type} {b : Bool} {x y : Option α} {R : Type} {h : α → Option R} : (cond b x y).bind h = cond b (x.bind h) (y.bind h) := by cases b <;> rfl
theorem inpV_n {E : Env} {M : List V} {f : Nat} {cap xs : List V} (k : List V → V → Option R) : (inpV E M f cap xs fun M v => (k M v).bind h) = (inpV E M f cap xs k).bind h := by
  unfold inpV
  split
  · split
    · rw [cond_bind, cond_bind]; rfl
    · rfl
  · rfl
theorem iopP_n {E : Env} {cf : CallF} {M0 : List V} {ρ : Operand → V} {o : Oper} (k : List V → V → Option R) : (iopP E cf M0 ρ o fun M v => (k M v).bind h) = (iopP E cf M0 ρ o k).bind h := by
  unfold iopP
  cases o.op <;> simp only
  all_goals first | rfl | skip
  case assign x => exact typed_n h _
  case alloc t => split <;> rfl
  case box t x =>
    split
    · rw [← typed_n]
      congr 1
      funext M v
      split <;> rfl
    · rfl
  case store t d x =>
    split
    · rw [← typed_n]
      congr 1
      funext M v
      split
      · split
        · split
          · exact setCells_n h _
          · rfl
        · split
          · split
            · rw [← share_n]
              congr 1
              funext M v
              split
              · rw [← set_n]
                congr 1
                funext ar
                split <;> rfl
              · rfl
            · rfl
          · rfl
        · rfl
      · rfl
    · rfl
  case buildSlice t n ps =>
    split
    · rw [← shareAll_n]
      congr 1
      funext M vs
      rw [← ofParts_n]
      congr 1
      funext vs
      split
      · exact ofL_n h _
      · rfl
    · rfl
  case makeSlice t l c =>
    split
    · split
      · exact zeros_n h _
      · rfl
    · rfl
  case slice t x lo hi mx =>
    split
    · split
      · exact sliceV_n h _
      · rfl
    · rfl
  case makeFunc f first cap =>
    split
    · split
      · rw [← shareAll_n]
        congr 1
        funext M vs
        split <;> rfl
      · rfl
    · rfl
  case call c =>
    split
    · split
      · split
        · exact appendV_n h _
        · rfl
      · rfl
    · rename_i f _
      unfold fnOf
      split
      · simp only
        split
        · rw [← handAll_n]
          congr 1
          funext M as ids
          split
          · split
            · rw [← chkS_n]
              congr 1
              funext v
              rw [← chkL1_n]
              congr 1
              funext outs
              exact backAll_n h _
            · rfl
          · rfl
        · exact inpV_n h _
        · rfl
      · rfl
    · rfl
theorem iopH_n {E : Env} {cf : CallF} {s : St} {o : Oper} (k : St → Option R) : (iopH E cf s o fun s => (k s).bind h) = (iopH E cf s o k).bind h := by rw [iopH_eq, iopH_eq]; exact iopP_n h _
theorem iop_n {E : Env} {cf : CallF} {s : St} {o : Oper} (k : St → Option R) : (iop E cf s o fun s => (k s).bind h) = (iop E cf s o k).bind h := by
  simp only [iop_eq]
  split
  · exact iopS_n h _
  · exact iopH_n h _
theorem iop_some {E : Env} {cf : CallF} {s : St} {o : Oper} (K : St → Option R) : iop E cf s o K = (iop E cf s o some).bind K := by
  rw [← iop_n]; rfl
end
end Go.Proofs.Ytfkkigbbejhfbaa.Idl
/- On what an operation hangs, and what it changes. -/
namespace Go.Proofs.Ytfkkigbbejhfbaa.Idl
open Go
section
variable {R : Type} {E : Env} {cf : CallF} {M M' : List V}

/-! ### operands -/
theorem call_args {c : Call} {ρ ρ' : Operand → V} (h : ∀ x, x ∈ c.operands → ρ' x = ρ x) : (∀ f, c.callee = .value f → ρ' f = ρ f) ∧ ∀ x, x ∈ c.args.toList → ρ' x = ρ x :=
  ⟨fun f hf => h f (by simp [Call.operands, hf]), fun x hx => h x (by simp only [Call.operands, Array.mem_append]; exact .inr (Array.mem_toList_iff.1 hx))⟩
theorem map_args {l : List Operand} {ρ ρ' : Operand → V} (h : ∀ x, x ∈ l → ρ' x = ρ x) : l.map ρ' = l.map ρ := List.map_congr_left h
theorem map_opt {l : Option Operand} {ρ ρ' : Operand → V} (h : ∀ x, l = some x → ρ' x = ρ x) : l.map ρ' = l.map ρ := by
  cases l with
  | none => rfl
  | some x => simp [h x rfl]
theorem any_args {l : Array Operand} {f g : Operand → Bool} (h : ∀ x, x ∈ l → f x = g x) : l.any f = l.any g := by
  rw [Bool.eq_iff_iff, Array.any_eq_true', Array.any_eq_true']
  constructor
  · rintro ⟨x, hx, e⟩; exact ⟨x, hx, by rw [← h x hx]; exact e⟩
  · rintro ⟨x, hx, e⟩; exact ⟨x, hx, by rw [h x hx]; exact e⟩
theorem all_args {l : Array Operand} {f g : Operand → Bool} (h : ∀ x, x ∈ l → f x = g x) : l.all f = l.all g := by
  rw [Bool.eq_iff_iff, Array.all_eq_true_iff_forall_mem, Array.all_eq_true_iff_forall_mem]
  constructor
  · intro e x hx; rw [← h x hx]; exact e x hx
  · intro e x hx; rw [h x hx]; exact e x hx

theorem isSimple_congr {o : Oper} {ρ ρ' : Operand → V} (h : ∀ x, x ∈ o.op.operands → ρ' x = ρ x) : isSimple E M ρ' o = isSimple E M ρ o := by
  obtain ⟨dst, op, ty, pos, after, guard⟩ := o
  cases op <;> simp only [isSimple, Op.operands] at h ⊢
  case assign x => rw [h x (by simp)]
  case slice t x lo hi mx => rw [h x (by simp)]
  case makeFunc f first cap =>
    congr 1
    exact all_args (fun x hx => by rw [h x (by simp [hx])])
  case buildSlice t n ps =>
    congr 1
    rw [Bool.eq_iff_iff, Array.all_eq_true_iff_forall_mem, Array.all_eq_true_iff_forall_mem]
    have e : ∀ p, p ∈ ps → ρ' p.2 = ρ p.2 := fun p hp => h p.2 (by simp only [List.mem_toArray, List.mem_map]; exact ⟨p, Array.mem_toList_iff.2 hp, rfl⟩)
    constructor
    · intro g p hp; rw [← e p hp]; exact g p hp
    · intro g p hp; rw [e p hp]; exact g p hp
  case call c =>
    obtain ⟨h1, h2⟩ := call_args h
    cases hc : c.callee with
    | builtin b => rfl
    | value f =>
      simp only
      rw [h1 f hc, any_args (f := fun x => ownObj M (ρ' x)) (g := fun x => ownObj M (ρ x)) (fun x hx => by rw [h2 x (by simpa using hx)]), any_args (f := fun x => lentOwn M (ρ' x)) (g := fun x => lentOwn M (ρ x)) (fun x hx => by rw [h2 x (by simpa using hx)])]
    | invoke x y => rfl

theorem iopS_congr {o : Oper} {ρ ρ' : Operand → V} (h : ∀ x, x ∈ o.op.operands → ρ' x = ρ x) (K : V → Option R) : iopS E cf M ρ' o K = iopS E cf M ρ o K := by
  obtain ⟨dst, op, ty, pos, after, guard⟩ := o
  cases op <;> simp only [iopS, Op.operands] at h ⊢
  case move x => rw [h x (by simp)]
  case assign x => rw [h x (by simp)]
  case pick c x y => rw [h c (by simp), h x (by simp), h y (by simp)]
  case binOp op t x y z => rw [h x (by simp), h y (by simp)]
  case unOp op t x => rw [h x (by simp)]
  case convert s d x => rw [h x (by simp)]
  case load t x => rw [h x (by simp)]
  case nilCheck x => rw [h x (by simp)]
  case fieldAddr t x f => rw [h x (by simp)]
  case field t x f => rw [h x (by simp)]
  case indexAddr t x i => rw [h x (by simp), h i (by simp)]
  case index t x i => rw [h x (by simp), h i (by simp)]
  case extract x i => rw [h x (by simp)]
  case slice t x lo hi mx => rw [h x (by simp), map_opt (l := lo) (fun y hy => h y (by simp [hy])), map_opt (l := hi) (fun y hy => h y (by simp [hy])), map_opt (l := mx) (fun y hy => h y (by simp [hy]))]
  case build t ps =>
    rw [show (ps.toList.map fun p => (p.1, ρ' p.2)) = ps.toList.map fun p => (p.1, ρ p.2) from List.map_congr_left (fun p hp => by
      rw [h p.2 (by simp only [List.mem_toArray, List.mem_map]; exact ⟨p, hp, rfl⟩)])]
  case buildSlice t n ps =>
    rw [show (ps.toList.map fun p => ρ' p.2) = ps.toList.map fun p => ρ p.2 from List.map_congr_left (fun p hp => by
      rw [h p.2 (by simp only [List.mem_toArray, List.mem_map]; exact ⟨p, hp, rfl⟩)])]
  case makeFunc f first cap => rw [map_args (l := cap.toList) (fun x hx => h x (by simp only [Array.mem_append]; exact .inr (Array.mem_toList_iff.1 hx)))]
  case call c =>
    obtain ⟨h1, h2⟩ := call_args h
    cases hc : c.callee with
    | builtin b =>
      simp only
      split
      · rename_i x hargs; rw [h2 x (by rw [hargs]; simp)]
      · rename_i x y hargs; rw [h2 x (by rw [hargs]; simp), h2 y (by rw [hargs]; simp)]
      · rename_i x y hargs; rw [h2 x (by rw [hargs]; simp), h2 y (by rw [hargs]; simp)]
      · rfl
    | value f => simp only; rw [h1 f hc, map_args h2]
    | invoke x y => rfl

theorem iopP_congr {o : Oper} {ρ ρ' : Operand → V} (h : ∀ x, x ∈ o.op.operands → ρ' x = ρ x) (K : List V → V → Option R) : iopP E cf M ρ' o K = iopP E cf M ρ o K := by
  obtain ⟨dst, op, ty, pos, after, guard⟩ := o
  cases op <;> simp only [iopP, Op.operands] at h ⊢
  case assign x => rw [h x (by simp)]
  case box t x => rw [h x (by simp)]
  case store t d x => rw [h x (by simp), h d (by simp)]
  case buildSlice t n ps =>
    rw [show (ps.toList.map fun p => ρ' p.2) = ps.toList.map fun p => ρ p.2 from List.map_congr_left (fun p hp => by
      rw [h p.2 (by simp only [List.mem_toArray, List.mem_map]; exact ⟨p, hp, rfl⟩)])]
  case makeSlice t x y => rw [h x (by simp), h y (by simp)]
  case slice t x lo hi mx => rw [h x (by simp), map_opt (l := lo) (fun y hy => h y (by simp [hy])), map_opt (l := hi) (fun y hy => h y (by simp [hy])), map_opt (l := mx) (fun y hy => h y (by simp [hy]))]
  case makeFunc f first cap => rw [map_args (l := cap.toList) (fun x hx => h x (by simp only [Array.mem_append]; exact .inr (Array.mem_toList_iff.1 hx)))]
  case call c =>
    obtain ⟨h1, h2⟩ := call_args h
    cases hc : c.callee with
    | builtin b =>
      simp only
      split
      · rename_i x y hargs; rw [h2 x (by rw [hargs]; simp), h2 y (by rw [hargs]; simp)]
      · rfl
    | value f => simp only; rw [h1 f hc, map_args h2]
    | invoke x y => rfl

/-! ### what a read looks at -/
theorem convV_m {s d : Nat} {x c : V} (hM : ∀ id, id ∈ refs x → pl M id ≠ .dead → pl M' id = pl M id) (h : convV E M s d x some = some c) : convV E M' s d x some = some c := by
  unfold convV at h ⊢
  (repeat' split at h) <;> simp_all [refs, refs1]
theorem loadV_m {t : Nat} {x c : V} (hM : ∀ id, id ∈ refs x → pl M id ≠ .dead → pl M' id = pl M id) (h : loadV E M t x some = some c) : loadV E M' t x some = some c := by
  unfold loadV at h ⊢
  (repeat' split at h) <;> simp_all [refs, refs1]
theorem fieldAddrV_m {t f : Nat} {x c : V} (hM : ∀ id, id ∈ refs x → pl M id ≠ .dead → pl M' id = pl M id) (h : fieldAddrV E M t x f some = some c) : fieldAddrV E M' t x f some = some c := by
  unfold fieldAddrV at h ⊢
  (repeat' split at h) <;> simp_all [refs, refs1]
theorem indexAddrV_m {t : Nat} {x i c : V} (hM : ∀ id, id ∈ refs x → pl M id ≠ .dead → pl M' id = pl M id) (h : indexAddrV E M t x i some = some c) : indexAddrV E M' t x i some = some c := by
  unfold indexAddrV at h ⊢
  (repeat' split at h) <;> simp_all [refs, refs1]
theorem sliceV_m {t : Nat} {x c : V} {lo hi mx : Option V} (hM : ∀ id, id ∈ refs x → pl M id ≠ .dead → pl M' id = pl M id) (h : sliceV E M t x lo hi mx some = some c) : sliceV E M' t x lo hi mx some = some c := by
  unfold sliceV at h ⊢
  (repeat' split at h) <;> simp_all [refs, refs1]
theorem lenV_m {x c : V} (hM : ∀ id, id ∈ refs x → pl M id ≠ .dead → pl M' id = pl M id) (h : lenV M x some = some c) : lenV M' x some = some c := by
  unfold lenV at h ⊢
  (repeat' split at h) <;> simp_all [refs, refs1]
theorem iopS_m {ρ : Operand → V} {o : Oper} {c : V} (hg : isGoCall o = false) (hM : ∀ x, x ∈ o.op.operands → ∀ id, id ∈ refs (ρ x) → pl M id ≠ .dead → pl M' id = pl M id) (h : iopS E cf M ρ o some = some c) : iopS E cf M' ρ o some = some c := by
  obtain ⟨dst, op, ty, pos, after, guard⟩ := o
  cases op <;> simp only [iopS, Op.operands] at h hM ⊢ <;> try exact h
  case convert s d x => exact convV_m (hM x (by simp)) h
  case load t x => exact loadV_m (hM x (by simp)) h
  case fieldAddr t x f => exact fieldAddrV_m (hM x (by simp)) h
  case indexAddr t x i => exact indexAddrV_m (hM x (by simp)) h
  case slice t x lo hi mx => exact sliceV_m (hM x (by simp)) h
  case call c =>
    cases hc : c.callee with
    | builtin b =>
      simp only [hc] at h ⊢
      split at h <;> try exact h
      rename_i x hargs
      split at h <;> try exact h
      split at h
      · rename_i hl
        rw [if_pos hl]
        refine lenV_m (hM x ?_) h
        have hx : x ∈ c.args := Array.mem_toList_iff.1 (by rw [hargs]; simp)
        simp only [Call.operands, Array.mem_append]
        exact .inr hx
      · exact absurd h (by simp)
    | value f => simp [isGoCall, hc] at hg
    | invoke x y => simp [isGoCall, hc] at hg
theorem isSimple_m {ρ : Operand → V} {o : Oper} (hg : isGoCall o = false) (hM : ∀ x, x ∈ o.op.operands → ∀ id, id ∈ refs (ρ x) → pl M id ≠ .dead → pl M' id = pl M id) (h : isSimple E M ρ o = true) : isSimple E M' ρ o = true := by
  obtain ⟨dst, op, ty, pos, after, guard⟩ := o
  cases op <;> simp only [isSimple, Op.operands] at h hM ⊢ <;> try exact h
  case slice t x lo hi mx =>
    have := hM x (by simp)
    (repeat' split at h) <;> simp_all [refs, refs1]
  case call c =>
    cases hc : c.callee with
    | builtin b => simp only [hc] at h ⊢; exact h
    | value f => simp [isGoCall, hc] at hg
    | invoke x y => simp [isGoCall, hc] at hg
end
end Go.Proofs.Ytfkkigbbejhfbaa.Idl
/- What an operation changes: the places that its operands tell of, and new ones. -/
namespace Go.Proofs.Ytfkkigbbejhfbaa.Idl
open Go
section
variable {R : Type} {E : Env} {cf : CallF} {M M' : List V}

structure Loc (M M' : List V) (ids : List Nat) : Prop where
  len : M.length ≤ M'.length
  keep : ∀ id, id < M.length → id ∉ ids → pl M' id = pl M id
structure Loc1 (M M' : List V) (ids : List Nat) : Prop where
  len : M'.length = M.length
  keep : ∀ id, id ∉ ids → pl M' id = pl M id
  pt : ∀ id l, pl M' id = .pt l → pl M id = .pt l
theorem Loc.refl {ids : List Nat} : Loc M M ids := ⟨Nat.le_refl _, fun _ _ _ => rfl⟩
theorem Loc.mono {ids ids' : List Nat} (h : Loc M M' ids) (hs : ∀ x, x ∈ ids → x ∈ ids') : Loc M M' ids' := ⟨h.len, fun id h1 h2 => h.keep id h1 (fun h3 => h2 (hs id h3))⟩
theorem Loc.trans {M1 M2 M3 : List V} {ids : List Nat} (h : Loc M1 M2 ids) (k : Loc M2 M3 ids) : Loc M1 M3 ids := ⟨Nat.le_trans h.len k.len, fun id h1 h2 => (k.keep id (Nat.lt_of_lt_of_le h1 h.len) h2).trans (h.keep id h1 h2)⟩
theorem Loc1.refl {ids : List Nat} : Loc1 M M ids := ⟨rfl, fun _ _ => rfl, fun _ _ h => h⟩
theorem Loc1.mono {ids ids' : List Nat} (h : Loc1 M M' ids) (hs : ∀ x, x ∈ ids → x ∈ ids') : Loc1 M M' ids' := ⟨h.len, fun id h2 => h.keep id (fun h3 => h2 (hs id h3)), h.pt⟩
theorem Loc1.trans {M1 M2 M3 : List V} {i1 i2 : List Nat} (h : Loc1 M1 M2 i1) (k : Loc1 M2 M3 i2) : Loc1 M1 M3 (i1 ++ i2) :=
  ⟨k.len.trans h.len, fun id h2 => by rw [List.mem_append, not_or] at h2; exact (k.keep id h2.2).trans (h.keep id h2.1), fun id l hl => h.pt id l (k.pt id l hl)⟩
theorem Loc1.loc {ids : List Nat} (h : Loc1 M M' ids) : Loc M M' ids := ⟨by rw [h.len]; exact Nat.le_refl _, fun id _ h2 => h.keep id h2⟩
theorem loc_set {id : Nat} {c : V} {ids : List Nat} (h : id ∈ ids) : Loc M (M.set id c) ids := ⟨by simp, fun j _ hj => by
  rw [pl_set, if_neg (by rintro ⟨rfl, _⟩; exact hj h)]⟩
theorem loc1_set {id : Nat} {c : V} (hc : ∀ l, c ≠ .pt l) : Loc1 M (M.set id c) [id] := ⟨by simp, fun j hj => by
  rw [pl_set, if_neg (by rintro ⟨rfl, _⟩; exact hj (by simp))], fun j l hl => by
  rw [pl_set] at hl
  split at hl
  · exact absurd hl (hc l)
  · exact hl⟩
theorem loc_push {c : V} {ids : List Nat} : Loc M (M ++ [c]) ids := ⟨by simp, fun j hj _ => by rw [pl_push, if_neg (by omega)]⟩
theorem touch_mono {v : V} (h : ∀ id l, pl M' id = .pt l → pl M id = .pt l) : ∀ x, x ∈ touch M' v → x ∈ touch M v := by
  intro x hx
  unfold touch at hx ⊢
  rw [List.mem_append] at hx ⊢
  rcases hx with hx | hx
  · exact .inl hx
  · refine .inr ?_
    rw [List.mem_flatMap] at hx ⊢
    obtain ⟨id, h1, h2⟩ := hx
    refine ⟨id, h1, ?_⟩
    split at h2
    · rename_i l hl
      rw [h id l hl]
      exact h2
    · simp at h2
theorem touch_refs {v : V} {x : Nat} (h : x ∈ refs v) : x ∈ touch M v := by
  unfold touch; rw [List.mem_append]; exact .inl h

theorem share1_l {v : V} {K : List V → V → Option R} {r : R} (h : share1 M v K = some r) : ∃ M' c, K M' c = some r ∧ Loc1 M M' (refs1 v) := by
  unfold share1 at h
  split at h
  · split at h
    · exact ⟨_, _, h, loc1_set (by simp)⟩
    · exact absurd h (by simp)
  all_goals first | exact absurd h (by simp) | exact ⟨_, _, h, .refl⟩
theorem shareL_l : ∀ {R : Type} {l M : List V} {K : List V → List V → Option R} {r : R}, shareL M l K = some r → ∃ M' c, K M' c = some r ∧ Loc1 M M' (l.flatMap refs1)
  | _, [], M, K, r, h => ⟨_, _, h, .refl⟩
  | _, v :: l, M, K, r, h => by
    simp only [shareL] at h
    obtain ⟨M1, c1, h, k1⟩ := share1_l h
    obtain ⟨M2, c2, h, k2⟩ := shareL_l h
    exact ⟨M2, _, h, by rw [List.flatMap_cons]; exact k1.trans k2⟩
theorem share_l {v : V} {K : List V → V → Option R} {r : R} (h : share M v K = some r) : ∃ M' c, K M' c = some r ∧ Loc1 M M' (touch M v) := by
  unfold share at h
  split at h
  · rename_i id off
    split at h
    · rename_i l hl
      obtain ⟨M1, c1, h, k1⟩ := shareL_l h
      have k0 : Loc1 M (M.set id .dead) [id] := loc1_set (by simp)
      have k2 : Loc1 M1 (M1.set id (.pv c1 0)) [id] := loc1_set (by simp)
      refine ⟨_, _, h, ((k0.trans k1).trans k2).mono (fun x hx => ?_)⟩
      simp only [List.mem_append, List.mem_singleton] at hx
      rcases hx with (hx | hx) | hx
      · exact touch_refs (by simp [refs, refs1, hx])
      · unfold touch
        rw [List.mem_append, List.mem_flatMap]
        exact .inr ⟨id, by simp [refs, refs1], by rw [hl]; exact hx⟩
      · exact touch_refs (by simp [refs, refs1, hx])
    · exact ⟨_, _, h, .refl⟩
    · exact absurd h (by simp)
  · rename_i l
    obtain ⟨M1, c1, h, k1⟩ := shareL_l h
    exact ⟨_, _, h, k1.mono (fun x hx => touch_refs hx)⟩
  · rename_i n1 n2
    obtain ⟨M1, c1, h, k1⟩ := share1_l h
    refine ⟨_, _, h, k1.mono (fun x hx => touch_refs ?_)⟩
    unfold refs
    split
    · rename_i l; exact absurd rfl (n2 l)
    · simp [refs1] at hx
    · exact hx
theorem shareAll_l : ∀ {R : Type} {l M : List V} {K : List V → List V → Option R} {r : R}, shareAll M l K = some r → ∃ M' c, K M' c = some r ∧ Loc1 M M' (l.flatMap (touch M))
  | _, [], M, K, r, h => ⟨_, _, h, .refl⟩
  | _, v :: l, M, K, r, h => by
    simp only [shareAll] at h
    obtain ⟨M1, c1, h, k1⟩ := share_l h
    obtain ⟨M2, c2, h, k2⟩ := shareAll_l h
    refine ⟨M2, _, h, (k1.trans k2).mono (fun x hx => ?_)⟩
    rw [List.flatMap_cons]
    rcases List.mem_append.1 hx with hx | hx
    · exact List.mem_append.2 (.inl hx)
    · refine List.mem_append.2 (.inr ?_)
      rw [List.mem_flatMap] at hx ⊢
      obtain ⟨u, h1, h2⟩ := hx
      exact ⟨u, h1, touch_mono k1.pt x h2⟩
theorem take1_l {v : V} {K : List V → V → Option R} {r : R} (h : take1 M v K = some r) : ∃ M' c, K M' c = some r ∧ Loc1 M M' (refs1 v) := by
  unfold take1 at h
  split at h
  · split at h
    · exact ⟨_, _, h, loc1_set (by simp)⟩
    · exact absurd h (by simp)
  all_goals first | exact absurd h (by simp) | exact ⟨_, _, h, .refl⟩
theorem takeL_l : ∀ {R : Type} {l M : List V} {K : List V → List V → Option R} {r : R}, takeL M l K = some r → ∃ M' c, K M' c = some r ∧ Loc1 M M' (l.flatMap refs1)
  | _, [], M, K, r, h => ⟨_, _, h, .refl⟩
  | _, v :: l, M, K, r, h => by
    simp only [takeL] at h
    obtain ⟨M1, c1, h, k1⟩ := take1_l h
    obtain ⟨M2, c2, h, k2⟩ := takeL_l h
    exact ⟨M2, _, h, by rw [List.flatMap_cons]; exact k1.trans k2⟩
theorem handArg_l {v : V} {t : Nat} {K : List V → V → List Nat → Option R} {r : R} (h : handArg E M v t K = some r) : ∃ M' c ids, K M' c ids = some r ∧ Loc1 M M' (touch M v) ∧ ∀ x, x ∈ ids → x ∈ touch M v := by
  unfold handArg at h
  split at h
  · rename_i id off
    split at h
    · rename_i l hl
      split at h
      · obtain ⟨M1, c1, h, k1⟩ := takeL_l h
        have k0 : Loc1 M (M.set id .dead) [id] := loc1_set (by simp)
        refine ⟨_, _, _, h, (k0.trans k1).mono (fun x hx => ?_), fun x hx => touch_refs (by simpa [refs, refs1] using hx)⟩
        simp only [List.mem_append, List.mem_singleton] at hx
        rcases hx with hx | hx
        · exact touch_refs (by simp [refs, refs1, hx])
        · unfold touch
          rw [List.mem_append, List.mem_flatMap]
          exact .inr ⟨id, by simp [refs, refs1], by rw [hl]; exact hx⟩
      · exact absurd h (by simp)
    · exact ⟨_, _, _, h, .refl, fun x hx => by simp at hx⟩
    · exact absurd h (by simp)
  · have h2 := nat_of (R := R) (R' := R) (α := V) (f := fun R K => lend E M t v K) some (fun R K => lend_b K)
    rw [lend_b] at h
    cases e : lend E M t v some with
    | none => rw [e] at h; exact absurd h (by simp)
    | some c => rw [e] at h; exact ⟨M, c, [], h, .refl, fun x hx => by simp at hx⟩
theorem handAll_l : ∀ {R : Type} {l : List (V × Nat)} {M : List V} {K : List V → List V → List Nat → Option R} {r : R}, handAll E M l K = some r →
    ∃ M' c ids, K M' c ids = some r ∧ Loc1 M M' (l.flatMap fun p => touch M p.1) ∧ ∀ x, x ∈ ids → x ∈ l.flatMap fun p => touch M p.1
  | _, [], M, K, r, h => ⟨_, _, _, h, .refl, fun x hx => by simp at hx⟩
  | _, (v, t) :: l, M, K, r, h => by
    simp only [handAll] at h
    obtain ⟨M1, c1, i1, h, k1, j1⟩ := handArg_l h
    obtain ⟨M2, c2, i2, h, k2, j2⟩ := handAll_l h
    have back : ∀ x, (x ∈ l.flatMap fun p => touch M1 p.1) → x ∈ l.flatMap fun p => touch M p.1 := by
      intro x hx
      rw [List.mem_flatMap] at hx ⊢
      obtain ⟨u, h1, h2⟩ := hx
      exact ⟨u, h1, touch_mono k1.pt x h2⟩
    refine ⟨M2, _, _, h, (k1.trans k2).mono (fun x hx => ?_), fun x hx => ?_⟩
    · rw [List.flatMap_cons]
      rcases List.mem_append.1 hx with hx | hx
      · exact List.mem_append.2 (.inl hx)
      · exact List.mem_append.2 (.inr (back x hx))
    · rw [List.flatMap_cons]
      rcases List.mem_append.1 hx with hx | hx
      · exact List.mem_append.2 (.inl (j1 x hx))
      · exact List.mem_append.2 (.inr (back x (j2 x hx)))
theorem lay1_l {c : V} {ids : List Nat} : Loc M (lay1 M c).1 ids := by
  unfold lay1; split
  · exact loc_push
  · exact .refl
theorem layL_l {ids : List Nat} : ∀ {l M : List V}, Loc M (layL M l).1 ids
  | [], M => .refl
  | c :: l, M => lay1_l.trans (layL_l (l := l))
theorem lay_l {c : V} {ids : List Nat} : Loc M (lay M c).1 ids := by
  unfold lay; split
  · exact layL_l.trans loc_push
  · exact layL_l
  · exact lay1_l
theorem layAll_l {ids : List Nat} : ∀ {l M : List V}, Loc M (layAll M l).1 ids
  | [], M => .refl
  | c :: l, M => lay_l.trans (layAll_l (l := l))
theorem layRes_l {c : V} {ids : List Nat} : Loc M (layRes M c).1 ids := by
  unfold layRes; split
  · exact layAll_l
  · exact lay_l
theorem layZero_l {ids : List Nat} : ∀ {l M : List V}, Loc M (layZero M l).1 ids
  | [], M => .refl
  | c :: l, M => by
    unfold layZero
    split
    · rename_i e; cases e
    · rename_i e; cases e; exact loc_push.trans layZero_l
    · rename_i e; cases e; exact layZero_l
theorem backAll_l : ∀ {R : Type} {ids : List Nat} {vs M : List V} {K : List V → Option R} {r : R} (big : List Nat), (∀ x, x ∈ ids → x ∈ big) → backAll M ids vs K = some r → ∃ M', K M' = some r ∧ Loc M M' big
  | _, [], [], M, K, r, big, _, h => ⟨_, h, .refl⟩
  | _, [], _ :: _, M, K, r, big, _, h => by simp [backAll] at h
  | _, id :: ids, [], M, K, r, big, _, h => by simp [backAll] at h
  | _, id :: ids, v :: vs, M, K, r, big, hb, h => by
    cases v with
    | pt l =>
      simp only [backAll] at h
      obtain ⟨M2, h, k⟩ := backAll_l big (fun x hx => hb x (by simp [hx])) h
      exact ⟨M2, h, (layL_l.trans (loc_set (hb id (by simp)))).trans k⟩
    | _ => simp [backAll] at h
theorem freezeIds_l {big : List Nat} : ∀ {ids : List Nat} {M : List V}, (∀ x, x ∈ ids → x ∈ big) → Loc M (freezeIds M ids) big
  | [], M, _ => .refl
  | id :: ids, M, hb => by
    simp only [freezeIds]
    refine Loc.trans ?_ (freezeIds_l (fun x hx => hb x (by simp [hx])))
    split
    · exact loc_set (hb id (by simp))
    · exact .refl
theorem typed_l {t : Nat} {v : V} {K : List V → V → Option R} {r : R} (h : typed E M t v K = some r) : ∃ M' c, K M' c = some r ∧ (∀ ids, Loc M M' ids) ∧ (c = v ∧ M' = M ∨ ∃ a, M' = M ++ [V.sl true a] ∧ c = .rs M.length ∧ a.len = 0) := by
  unfold typed at h
  split at h
  · split at h
    · rename_i te _
      exact ⟨_, _, h, fun _ => loc_push, .inr ⟨_, rfl, rfl, te.ek.nil_len⟩⟩
    · exact absurd h (by simp)
  · exact ⟨_, _, h, fun _ => .refl, .inl ⟨rfl, rfl⟩⟩
theorem loc_new {ids : List Nat} {c : V} {id : Nat} (h : id ∈ ids ∨ M.length ≤ id) (k : Loc M M' ids) : Loc M (M'.set id c) ids := ⟨by simpa using k.len, fun j hj hn => by
  rw [pl_set, if_neg (by rintro ⟨rfl, _⟩; rcases h with h | h; exact hn h; omega)]
  exact k.keep j hj hn⟩

theorem some_u {α R : Type} {f : ∀ R : Type, (α → Option R) → Option R} (hf : ∀ (R : Type) (K : α → Option R), f R K = (f α some).bind K) {K : α → Option R} {r : R} (h : f R K = some r) : ∃ c, f α some = some c ∧ K c = some r := by
  rw [hf] at h
  exact Option.bind_eq_some_iff.1 h

theorem appendV_l {t u : Nat} {x y : V} {K : List V → V → Option R} {r : R} (h : appendV E M t u x y K = some r) : ∃ M' c, K M' c = some r ∧ Loc M M' (refs x) := by
  unfold appendV at h
  split at h
  · exact absurd h (by simp)
  · split at h
    · obtain ⟨M1, c1, h, k1, hc⟩ := typed_l h
      split at h
      · rename_i id
        have hid : id ∈ refs x ∨ M.length ≤ id := by
          rcases hc with ⟨rfl, _⟩ | ⟨a, _, e, _⟩
          · exact .inl (by simp [refs, refs1])
          · cases e; exact .inr (Nat.le_refl _)
        have fin : ∀ c, Loc M (M1.set id .dead ++ [c]) (refs x) := fun c => (loc_new hid (k1 _)).trans loc_push
        split at h
        · split at h
          · split at h
            · split at h
              · exact ⟨_, _, h, fin _⟩
              · exact absurd h (by simp)
            · split at h
              · split at h
                · exact ⟨_, _, h, fin _⟩
                · exact absurd h (by simp)
              · exact absurd h (by simp)
            · split at h
              · exact absurd h (by simp)
              · split at h
                · obtain ⟨b, _, h⟩ := some_u (f := fun R K => sliceOf M1 _ K) (fun R K => sliceOf_b K) h
                  split at h
                  · obtain ⟨ab, _, h⟩ := some_u (f := fun R K => Arr.app _ b K) (fun R K => app_b K) h
                    exact ⟨_, _, h, fin _⟩
                  · exact absurd h (by simp)
                · exact absurd h (by simp)
            · split at h
              · obtain ⟨b, _, h⟩ := some_u (f := fun R K => sliceOf M1 _ K) (fun R K => sliceOf_b K) h
                split at h
                · obtain ⟨ab, _, h⟩ := some_u (f := fun R K => Arr.app _ b K) (fun R K => app_b K) h
                  exact ⟨_, _, h, fin _⟩
                · exact absurd h (by simp)
              · exact absurd h (by simp)
          · exact absurd h (by simp)
        · exact absurd h (by simp)
      · exact absurd h (by simp)
    · exact absurd h (by simp)
end
end Go.Proofs.Ytfkkigbbejhfbaa.Idl
/- What an operation changes, for each kind of operation. -/
namespace Go.Proofs.Ytfkkigbbejhfbaa.Idl
open Go
section
variable {R : Type} {E : Env} {cf : CallF} {M M' : List V}

theorem touch_op {ρ : Operand → V} {l : List Operand} {x : Operand} (hx : x ∈ l) {id : Nat} (h : id ∈ touch M (ρ x)) : id ∈ l.flatMap fun x => touch M (ρ x) := List.mem_flatMap.2 ⟨x, hx, h⟩
theorem lent_refs {l : List V} {id : Nat} (h : id ∈ lentIds l) : ∃ c, c ∈ l ∧ id ∈ refs c := by
  rw [lentIds_eq, List.mem_flatMap] at h
  obtain ⟨c, hc, h⟩ := h
  refine ⟨c, hc, ?_⟩
  cases c with
  | rs j => simpa [lend1Ids, refs, refs1] using h
  | agg l =>
    simp only [lend1Ids, List.mem_filterMap] at h
    obtain ⟨u, hu, he⟩ := h
    simp only [refs, List.mem_flatMap]
    refine ⟨u, hu, ?_⟩
    cases u <;> simp at he
    simp [refs1, he]
  | _ => simp [lend1Ids] at h

theorem inpV_l {f : Nat} {cap xs : List V} {K : List V → V → Option R} {r : R} (h : inpV E M f cap xs K = some r) : ∃ M' c, K M' c = some r ∧ Loc M M' (xs.flatMap fun x => touch M x) := by
  unfold inpV at h
  split at h
  · rename_i ret ok g id _
    have hid : id ∈ [V.rs id].flatMap fun x => touch M x := by simp [touch, refs, refs1]
    split at h
    · rename_i a _
      cases hok : ok a <;> cases ret <;> rw [hok] at h <;> simp only [cond_true, cond_false, reduceCtorEq] at h
      · exact ⟨_, _, h, loc_set hid⟩
      · exact ⟨_, _, h, (loc_set hid).trans loc_push⟩
    · exact absurd h (by simp)
  · exact absurd h (by simp)

theorem iopP_l {ρ : Operand → V} {o : Oper} {K : List V → V → Option R} {r : R} (h : iopP E cf M ρ o K = some r) : ∃ M' c, K M' c = some r ∧ Loc M M' (o.op.operands.toList.flatMap fun x => touch M (ρ x)) := by
  obtain ⟨dst, op, ty, pos, after, guard⟩ := o
  cases op <;> simp only [iopP, Op.operands, reduceCtorEq] at h ⊢
  case assign x =>
    obtain ⟨M1, c1, h, k1, _⟩ := typed_l h
    exact ⟨_, _, h, k1 _⟩
  case alloc t =>
    split at h
    · exact ⟨_, _, h, layZero_l.trans loc_push⟩
    · exact absurd h (by simp)
  case box t x =>
    split at h
    · obtain ⟨M1, c1, h, k1, _⟩ := typed_l h
      split at h
      · exact ⟨_, _, h, (k1 _).trans loc_push⟩
      · exact absurd h (by simp)
    · exact absurd h (by simp)
  case store t d x =>
    split at h
    · obtain ⟨M1, c1, h, k1, hc⟩ := typed_l h
      split at h
      · split at h
        · rename_i id off hd
          have hid : id ∈ (#[d, x] : Array Operand).toList.flatMap fun x => touch M (ρ x) := touch_op (x := d) (by simp) (touch_refs (by rw [hd]; simp [refs, refs1]))
          split at h
          · unfold setCells at h
            split at h
            · exact ⟨_, _, h, (k1 _).trans (loc_set hid)⟩
            · exact absurd h (by simp)
          · exact absurd h (by simp)
        · rename_i id i off hd
          have hid : id ∈ (#[d, x] : Array Operand).toList.flatMap fun x => touch M (ρ x) := touch_op (x := d) (by simp) (touch_refs (by rw [hd]; simp [refs, refs1]))
          split at h
          · split at h
            · obtain ⟨M2, c2, h, k2⟩ := share_l h
              split at h
              · obtain ⟨ar, _, h⟩ := some_u (f := fun R K => Arr.set _ i off c2 K) (fun R K => set_b K) h
                split at h
                · refine ⟨_, _, h, loc_new (.inl hid) ?_⟩
                  rcases hc with ⟨rfl, rfl⟩ | ⟨a, rfl, rfl, _⟩
                  · exact k2.loc.mono (fun y hy => touch_op (x := x) (by simp) hy)
                  · have h0 : touch (M ++ [V.sl true a]) (.rs M.length) = [M.length] := by
                      simp [touch, refs, refs1, pl_push]
                    rw [h0] at k2
                    refine ⟨by rw [k2.len]; simp, fun j hj hn => ?_⟩
                    rw [k2.keep j (by simp; omega), pl_push, if_neg (by omega)]
                · exact absurd h (by simp)
              · exact absurd h (by simp)
            · exact absurd h (by simp)
          · exact absurd h (by simp)
        · exact absurd h (by simp)
      · exact absurd h (by simp)
    · exact absurd h (by simp)
  case buildSlice t n ps =>
    split at h
    · rename_i te _
      obtain ⟨M1, c1, h, k1⟩ := shareAll_l h
      obtain ⟨vs, _, h⟩ := Option.bind_eq_some_iff.1 (show (ofParts te ((ps.toList.map (·.1)).zip c1) 0 some).bind (fun vs => if vs.length = n ∧ n * te.size ≤ 65536 then ofL te.ek vs fun a => K (M1 ++ [V.sl true a]) (.rs M1.length) else none) = some r from by
        rw [← ofParts_n]; exact h)
      split at h
      · obtain ⟨a, _, h⟩ := Option.bind_eq_some_iff.1 (show (ofL te.ek vs some).bind (fun a => K (M1 ++ [V.sl true a]) (.rs M1.length)) = some r from by rw [← ofL_n]; exact h)
        refine ⟨_, _, h, (k1.loc.mono (fun x hx => ?_)).trans loc_push⟩
        rw [List.mem_flatMap] at hx
        obtain ⟨c, hc, hx⟩ := hx
        rw [List.mem_map] at hc
        obtain ⟨p, hp, rfl⟩ := hc
        exact touch_op (x := p.2) (by simp only [List.mem_map]; exact ⟨p, hp, rfl⟩) hx
      · exact absurd h (by simp)
    · exact absurd h (by simp)
  case makeSlice t l c =>
    split at h
    · rename_i te k1 n k2 m _ _ _
      split at h
      · obtain ⟨a, _, h⟩ := Option.bind_eq_some_iff.1 (show (zeros te n.toNat some).bind (fun a => K (M ++ [V.sl true a]) (.rs M.length)) = some r from by rw [← zeros_n]; exact h)
        exact ⟨_, _, h, loc_push⟩
      · exact absurd h (by simp)
    · exact absurd h (by simp)
  case slice t x lo hi mx =>
    split at h
    · rename_i id hx
      split at h
      · rename_i o a _
        obtain ⟨v, _, h⟩ := some_u (f := fun R K => sliceV E (M.set id (.sl false a)) t (.rs id) (lo.map ρ) (hi.map ρ) (mx.map ρ) K) (fun R K => sliceV_b K) h
        exact ⟨_, _, h, loc_set (touch_op (x := x) (by simp) (touch_refs (by rw [hx]; simp [refs, refs1])))⟩
      · exact absurd h (by simp)
    · exact absurd h (by simp)
  case makeFunc f first cap =>
    split at h
    · split at h
      · obtain ⟨M1, c1, h, k1⟩ := shareAll_l h
        split at h
        · refine ⟨_, _, h, k1.loc.mono (fun x hx => ?_)⟩
          rw [List.mem_flatMap] at hx
          obtain ⟨c, hc, hx⟩ := hx
          rw [List.mem_map] at hc
          obtain ⟨y, hy, rfl⟩ := hc
          exact touch_op (x := y) (by simp only [Array.toList_append, List.mem_append]; exact .inr hy) hx
        · exact absurd h (by simp)
      · exact absurd h (by simp)
    · exact absurd h (by simp)
  case call c =>
    have argm : ∀ y, y ∈ c.args.toList → y ∈ c.operands.toList := fun y hy => by
      simp only [Call.operands, Array.toList_append, List.mem_append]; exact .inr hy
    split at h
    · split at h
      · rename_i x y hargs hb
        split at h
        · obtain ⟨M1, c1, h, k1⟩ := appendV_l h
          exact ⟨_, _, h, k1.mono (fun z hz => touch_op (x := x) (argm x (by rw [hargs]; simp)) (touch_refs hz))⟩
        · exact absurd h (by simp)
      · exact absurd h (by simp)
    · unfold fnOf at h
      split at h
      · simp only at h
        split at h
        · rename_i sg fn _ _
          obtain ⟨M1, as, ids, h, k1, j1⟩ := handAll_l h
          have big : ∀ x, (x ∈ ((c.args.toList.map ρ).zip (sg.tys fn)).flatMap fun p => touch M p.1) → x ∈ c.operands.toList.flatMap fun x => touch M (ρ x) := by
            intro x hx
            rw [List.mem_flatMap] at hx
            obtain ⟨p, hp, hx⟩ := hx
            have hp1 := (List.of_mem_zip hp).1
            rw [List.mem_map] at hp1
            obtain ⟨y, hy, e⟩ := hp1
            rw [← e] at hx
            exact touch_op (x := y) (argm y hy) hx
          split at h
          · split at h
            · obtain ⟨v, _, h⟩ := some_u (f := fun R K => sg.res.chk _ K) (fun R K => chkS_b K) h
              obtain ⟨outs, _, h⟩ := some_u (f := fun R K => chkL1 sg.outs _ K) (fun R K => chkL1_b K) h
              obtain ⟨M2, h, k2⟩ := backAll_l (c.operands.toList.flatMap fun x => touch M (ρ x)) (fun x hx => big x (j1 x hx)) h
              refine ⟨_, _, h, ((k1.loc.mono big).trans (Loc.trans ?_ k2)).trans layRes_l⟩
              split
              · exact .refl
              · refine freezeIds_l (fun x hx => ?_)
                obtain ⟨u, hu, hx⟩ := lent_refs hx
                rw [List.mem_map] at hu
                obtain ⟨y, hy, rfl⟩ := hu
                exact touch_op (x := y) (argm y hy) (touch_refs hx)
            · exact absurd h (by simp)
          · exact absurd h (by simp)
        · obtain ⟨M1, c1, h, k1⟩ := inpV_l h
          refine ⟨_, _, h, k1.mono (fun x hx => ?_)⟩
          rw [List.mem_flatMap] at hx
          obtain ⟨p, hp, hx⟩ := hx
          rw [List.mem_map] at hp
          obtain ⟨y, hy, e⟩ := hp
          rw [← e] at hx
          exact touch_op (x := y) (argm y hy) hx
        · exact absurd h (by simp)
      · exact absurd h (by simp)
    · exact absurd h (by simp)

/-! ## one operation, as a step -/
/-- the places and the value that an operation yields -/
def istep (E : Env) (cf : CallF) (M : List V) (ρ : Operand → V) (o : Oper) : Option (List V × V) :=
  if isSimple E M ρ o then iopS E cf M ρ o fun v => some (M, v) else iopP E cf M ρ o fun M v => some (M, v)
theorem iop_istep {s : St} {o : Oper} (K : St → Option R) : iop E cf s o K = (istep E cf s.M s.eval o).bind fun p => K ({ s with M := p.1 }.put o.dst p.2) := by
  rw [iop_eq]
  unfold istep
  split
  · rw [← iopS_n]; rfl
  · rw [iopH_eq, ← iopP_n]; rfl
theorem istep_congr {o : Oper} {ρ ρ' : Operand → V} (h : ∀ x, x ∈ o.op.operands → ρ' x = ρ x) : istep E cf M ρ' o = istep E cf M ρ o := by
  unfold istep
  rw [isSimple_congr h, iopS_congr h, iopP_congr h]
theorem istep_read {o : Oper} {ρ : Operand → V} {p : List V × V} (hr : isRead E M ρ o = true) (hs : istep E cf M ρ o = some p) :
    p.1 = M ∧ ∀ M' : List V, (∀ x, x ∈ o.op.operands → ∀ id, id ∈ refs (ρ x) → pl M id ≠ .dead → pl M' id = pl M id) → isRead E M' ρ o = true ∧ istep E cf M' ρ o = some (M', p.2) := by
  unfold isRead at hr
  rw [Bool.and_eq_true, Bool.not_eq_true'] at hr
  unfold istep at hs
  rw [if_pos hr.2, iopS_b] at hs
  obtain ⟨c, hc, e⟩ := Option.bind_eq_some_iff.1 hs
  cases e
  refine ⟨rfl, fun M' hM => ?_⟩
  have h1 := isSimple_m (M' := M') hr.1 hM hr.2
  have h2 := iopS_m (M' := M') hr.1 hM hc
  refine ⟨by unfold isRead; rw [h1, hr.1]; rfl, ?_⟩
  unfold istep
  rw [if_pos h1, iopS_b, h2]; rfl
theorem istep_loc {o : Oper} {ρ : Operand → V} {p : List V × V} (hs : istep E cf M ρ o = some p) : Loc M p.1 (o.op.operands.toList.flatMap fun x => touch M (ρ x)) := by
  unfold istep at hs
  split at hs
  · rw [iopS_b] at hs
    obtain ⟨c, hc, e⟩ := Option.bind_eq_some_iff.1 hs
    cases e
    exact .refl
  · obtain ⟨M', c, e, k⟩ := iopP_l hs
    cases e
    exact k
end
end Go.Proofs.Ytfkkigbbejhfbaa.Idl
/- Regions whose order is drawn. -/
namespace Go.Proofs.Ytfkkigbbejhfbaa.Idl
open Go
section
variable {R : Type} {E : Env} {cf : CallF} {all : List Oper} {s s1 s2 : St} {M M' : List V}

def footV (E : Env) (M : List V) (ρ : Operand → V) (o : Oper) : Foot :=
  if isRead E M ρ o then ⟨false, o.op.operands.toList.flatMap fun x => refs (ρ x), 0⟩
  else ⟨true, o.op.operands.toList.flatMap fun x => touch M (ρ x), M.length⟩
def stepV (E : Env) (cf : CallF) (M : List V) (ρ : Operand → V) (o : Oper) : Option (List V × V × Foot) := (istep E cf M ρ o).map fun p => (p.1, p.2, footV E M ρ o)
/-- one operation, guarded, with its footprint -/
def gv (E : Env) (cf : CallF) (all : List Oper) (M : List V) (ρ : Operand → V) (o : Oper) : Option (List V × V × Foot) :=
  match guardTmp all o with
  | none => none
  | some none => stepV E cf M ρ o
  | some (some (t, want)) => (match ρ (.tmp t) with
      | .bool b => if b = want then stepV E cf M ρ o else some (M, .tup [], ⟨false, [], 0⟩)
      | .tup [] => some (M, .tup [], ⟨false, [], 0⟩)
      | _ => none)
def after (s : St) (o : Oper) (q : List V × V × Foot) : St := { s with M := q.1 }.put o.dst q.2.1

theorem footOf_eq (s : St) (o : Oper) : footOf E s o = footV E s.M s.eval o := rfl

/-- a run of operations, by their numbers, each with its footprint -/
inductive Run (E : Env) (cf : CallF) (all : List Oper) : List (Nat × Foot) → St → St → Prop where
  | nil (s : St) : Run E cf all [] s s
  | cons {i : Nat} {f : Foot} {L : List (Nat × Foot)} {s s' : St} {o : Oper} {q : List V × V × Foot} (ho : all[i]? = some o) (hq : gv E cf all s.M s.eval o = some q) (hf : q.2.2 = f) (h : Run E cf all L (after s o q) s') : Run E cf all ((i, f) :: L) s s'

theorem iopG_gv {o : Oper} {q : List V × V × Foot} (h : gv E cf all s.M s.eval o = some q) (K : St → Option R) : iopG E cf all s o K = K (after s o q) := by
  have st : stepV E cf s.M s.eval o = some q → iop E cf s o K = K (after s o q) := by
    intro h
    unfold stepV at h
    obtain ⟨p, hp, rfl⟩ := Option.map_eq_some_iff.1 h
    rw [iop_istep, hp]; rfl
  unfold gv at h
  unfold iopG
  split at h
  · exact absurd h (by simp)
  · rename_i hg
    simp only [hg]
    exact st h
  · rename_i t want hg
    simp only [hg]
    split at h
    · rename_i b hb
      have hb : s.get t = .bool b := hb
      have e := St.put_get hb (by simp)
      simp only [hb]
      split at h
      · rename_i hw
        subst hw
        cases b <;> simp only [cond_true, cond_false] <;> rw [e] <;> exact st h
      · rename_i hw
        cases h
        cases b <;> cases want <;> simp at hw <;> simp only [cond_true, cond_false] <;> rw [e] <;> rfl
    · rename_i hb
      have hb : s.get t = .tup [] := hb
      simp only [hb]
      cases h; rfl
    · exact absurd h (by simp)

theorem iopsD_run : ∀ (k : Nat) (os : List Oper) (s : St) (fs : List Foot) (K : St → List Foot → Option R) (r : R), (∀ j, os[j]? = all[k + j]?) → iopsD E cf all os s fs K = some r →
    ∃ L s', Run E cf all L s s' ∧ L.map (·.1) = List.range' k os.length ∧ K s' (fs ++ L.map (·.2)) = some r
  | k, [], s, fs, K, r, _, h => ⟨[], s, .nil s, rfl, by rw [show ([] : List (Nat × Foot)).map (·.2) = [] from rfl, List.append_nil]; exact h⟩
  | k, o :: os, s, fs, K, r, hall, h => by
    have ho : all[k]? = some o := by simpa using (hall 0).symm
    have hall' : ∀ j, os[j]? = all[(k + 1) + j]? := fun j => by have := hall (j + 1); simpa [Nat.add_assoc, Nat.add_comm 1 j] using this
    have next : ∀ {q : List V × V × Foot}, gv E cf all s.M s.eval o = some q → iopsD E cf all os (after s o q) (fs ++ [q.2.2]) K = some r →
        ∃ L s', Run E cf all L s s' ∧ L.map (·.1) = List.range' k (o :: os).length ∧ K s' (fs ++ L.map (·.2)) = some r := by
      intro q hq hk
      obtain ⟨L, s', h1, h2, h3⟩ := iopsD_run (k + 1) os _ _ K r hall' hk
      exact ⟨(k, q.2.2) :: L, s', .cons ho hq rfl h1, by simp [h2, List.range'_succ], by simpa using h3⟩
    have st : gv E cf all s.M s.eval o = stepV E cf s.M s.eval o → (iop E cf s o fun s' => iopsD E cf all os s' (fs ++ [footOf E s o]) K) = some r →
        ∃ L s', Run E cf all L s s' ∧ L.map (·.1) = List.range' k (o :: os).length ∧ K s' (fs ++ L.map (·.2)) = some r := by
      intro hg hk
      rw [iop_istep] at hk
      obtain ⟨p, hp, hk⟩ := Option.bind_eq_some_iff.1 hk
      refine next (q := (p.1, p.2, footV E s.M s.eval o)) ?_ hk
      rw [hg, stepV, hp]; rfl
    unfold iopsD at h
    split at h
    · exact absurd h (by simp)
    · rename_i hg
      exact st (by simp [gv, hg]) h
    · rename_i t want hg
      split at h
      · rename_i b hb
        have e := St.put_get hb (by simp)
        have hb' : s.eval (.tmp t) = .bool b := hb
        cases b <;> simp only [cond_true, cond_false] at h <;> rw [e] at h <;> cases want <;> simp only [if_true, Bool.false_eq_true, if_false] at h
        · exact st (by simp [gv, hg, hb']) h
        · exact next (q := (s.M, .tup [], ⟨false, [], 0⟩)) (by simp [gv, hg, hb']) h
        · exact next (q := (s.M, .tup [], ⟨false, [], 0⟩)) (by simp [gv, hg, hb']) h
        · exact st (by simp [gv, hg, hb']) h
      · rename_i hb
        have hb' : s.eval (.tmp t) = .tup [] := hb
        exact next (q := (s.M, .tup [], ⟨false, [], 0⟩)) (by simp [gv, hg, hb']) h
      · exact absurd h (by simp)

/-! ### on what it hangs -/
theorem gv_congr {o : Oper} {ρ ρ' : Operand → V} (hc : ∀ x, (∀ t, x ≠ .tmp t) → ρ' x = ρ x) (h : ∀ t, t ∈ tmpsOf o all → ρ' (.tmp t) = ρ (.tmp t)) : gv E cf all M ρ' o = gv E cf all M ρ o := by
  have hx : ∀ x, x ∈ o.op.operands → ρ' x = ρ x := by
    intro x hx
    cases x with
    | tmp t =>
      refine h t ?_
      unfold tmpsOf
      rw [List.mem_append, List.mem_filterMap]
      exact .inl ⟨.tmp t, Array.mem_toList_iff.2 hx, rfl⟩
    | const v => exact hc _ (by simp)
    | global g => exact hc _ (by simp)
    | func f => exact hc _ (by simp)
  have hl : ∀ (g : Operand → V) (f : V → List Nat), (∀ x, x ∈ o.op.operands → g x = ρ x) → (o.op.operands.toList.flatMap fun x => f (g x)) = o.op.operands.toList.flatMap fun x => f (ρ x) := by
    intro g f hg
    rw [List.flatMap_def, List.flatMap_def]
    congr 1
    exact List.map_congr_left (fun x hx => by rw [hg x (Array.mem_toList_iff.1 hx)])
  have hs : stepV E cf M ρ' o = stepV E cf M ρ o := by
    unfold stepV footV isRead
    rw [istep_congr hx, isSimple_congr hx, hl ρ' refs hx, hl ρ' (touch M) hx]
  unfold gv
  cases hg : guardTmp all o with
  | none => rfl
  | some g =>
    cases g with
    | none => exact hs
    | some tw =>
      obtain ⟨t, want⟩ := tw
      simp only
      rw [h t (by unfold tmpsOf; rw [hg]; simp), hs]
theorem gv_read {o : Oper} {ρ : Operand → V} {q : List V × V × Foot} (h : gv E cf all M ρ o = some q) (hr : q.2.2.heavy = false) :
    q.1 = M ∧ ∀ M' : List V, (∀ id, id ∈ q.2.2.ids → pl M id ≠ .dead → pl M' id = pl M id) → gv E cf all M' ρ o = some (M', q.2) := by
  have hs : stepV E cf M ρ o = some q → q.1 = M ∧ ∀ M' : List V, (∀ id, id ∈ q.2.2.ids → pl M id ≠ .dead → pl M' id = pl M id) → stepV E cf M' ρ o = some (M', q.2) := by
    intro h
    unfold stepV at h
    obtain ⟨p, hp, rfl⟩ := Option.map_eq_some_iff.1 h
    simp only at hr ⊢
    have hrd : isRead E M ρ o = true := by
      unfold footV at hr
      split at hr
      · rename_i h; exact h
      · exact absurd hr (by simp)
    obtain ⟨h1, h2⟩ := istep_read hrd hp
    refine ⟨h1, fun M' hM => ?_⟩
    have hfv : footV E M ρ o = ⟨false, o.op.operands.toList.flatMap fun x => refs (ρ x), 0⟩ := by unfold footV; rw [if_pos hrd]
    rw [hfv] at hM
    obtain ⟨h3, h4⟩ := h2 M' (fun x hx id hid hd => hM id (List.mem_flatMap.2 ⟨x, Array.mem_toList_iff.2 hx, hid⟩) hd)
    unfold stepV
    rw [h4, hfv]
    unfold footV
    rw [if_pos h3]; rfl
  unfold gv at h ⊢
  split at h
  · exact absurd h (by simp)
  · exact hs h
  · split at h
    · rename_i b hb
      split at h
      · rename_i hw
        obtain ⟨h1, h2⟩ := hs h
        exact ⟨h1, fun M' hM => by simp only [if_pos hw]; exact h2 M' hM⟩
      · rename_i hw
        cases h
        exact ⟨rfl, fun M' hM => by simp only [if_neg hw]⟩
    · cases h
      exact ⟨rfl, fun M' hM => rfl⟩
    · exact absurd h (by simp)
theorem gv_loc {o : Oper} {ρ : Operand → V} {q : List V × V × Foot} (h : gv E cf all M ρ o = some q) (hr : q.2.2.heavy = true) : Loc M q.1 q.2.2.ids ∧ q.2.2.n = M.length := by
  have hs : stepV E cf M ρ o = some q → Loc M q.1 q.2.2.ids ∧ q.2.2.n = M.length := by
    intro h
    unfold stepV at h
    obtain ⟨p, hp, rfl⟩ := Option.map_eq_some_iff.1 h
    simp only at hr ⊢
    unfold footV at hr ⊢
    split at hr
    · exact absurd hr (by simp)
    · rename_i hn
      rw [if_neg hn]
      exact ⟨istep_loc hp, rfl⟩
  unfold gv at h
  split at h
  · exact absurd h (by simp)
  · exact hs h
  · split at h
    · split at h
      · exact hs h
      · cases h; exact absurd hr (by simp)
    · cases h; exact absurd hr (by simp)
    · exact absurd h (by simp)

/-! ### two operations, exchanged -/
theorem put_get_ne {d : Option Nat} {v : V} {t : Nat} (h : d ≠ some t) : ({ s with M := M }.put d v).eval (.tmp t) = s.eval (.tmp t) := by
  cases d with
  | none => rfl
  | some d =>
    have : d ≠ t := fun e => h (by rw [e])
    simp [St.put, St.eval, St.get, List.getElem?_set_ne this]
theorem put_eval_const {d : Option Nat} {v : V} {x : Operand} (h : ∀ t, x ≠ .tmp t) : ({ s with M := M }.put d v).eval x = s.eval x := by
  cases x with
  | tmp t => exact absurd rfl (h t)
  | const v => cases d <;> rfl
  | global g => cases d <;> rfl
  | func f => cases d <;> rfl
theorem put_M {d : Option Nat} {v : V} : ({ s with M := M }.put d v).M = M := by cases d <;> rfl
theorem put_comm {d e : Option Nat} {u v : V} (h : ∀ x, d = some x → e ≠ some x) (M1 M2 M3 : List V) : { ({ s with M := M1 }.put d u) with M := M3 }.put e v = { ({ s with M := M2 }.put e v) with M := M3 }.put d u := by
  cases d with
  | none => cases e <;> rfl
  | some d =>
    cases e with
    | none => rfl
    | some e =>
      have : d ≠ e := fun x => h d rfl (by rw [x])
      simp only [St.put]
      rw [List.set_comm _ _ this]

def NoClash (all : List Oper) (a b : Oper) (fa fb : Foot) : Prop := clash all a b fa fb = false
theorem noClash_spec {a b : Oper} {fa fb : Foot} (h : NoClash all a b fa fb) : (∀ d, a.dst = some d → d ∉ tmpsOf b all ∧ b.dst ≠ some d) ∧ (∀ d, b.dst = some d → d ∉ tmpsOf a all) ∧ ¬ (fa.heavy = true ∧ fb.heavy = true) ∧
    (fa.heavy = true → ∀ id, id ∈ fb.ids → id ∉ fa.ids ∧ id < fa.n) ∧ (fb.heavy = true → ∀ id, id ∈ fa.ids → id ∉ fb.ids) := by
  unfold NoClash clash at h
  simp only [Bool.or_eq_false_iff] at h
  obtain ⟨⟨⟨⟨h1, h2⟩, h3⟩, h4⟩, h5⟩ := h
  refine ⟨fun d hd => ?_, fun d hd => ?_, fun hh => ?_, fun hh id hid => ?_, fun hh id hid => ?_⟩
  · rw [hd] at h1
    simp only [Bool.or_eq_false_iff] at h1
    exact ⟨by simpa using h1.1, by simpa using h1.2⟩
  · rw [hd] at h2
    simpa using h2
  · rw [hh.1, hh.2] at h3; simp at h3
  · rw [hh, Bool.true_and, List.any_eq_false] at h4
    have := h4 id hid
    simp only [Bool.or_eq_true, not_or, decide_eq_true_eq] at this
    exact ⟨by simpa using this.1, by omega⟩
  · rw [hh, Bool.true_and, List.any_eq_false] at h5
    have := h5 id hid
    simpa using this

theorem swap {oy ox : Oper} {qy qx : List V × V × Foot} (hy : gv E cf all s.M s.eval oy = some qy) (hx : gv E cf all (after s oy qy).M (after s oy qy).eval ox = some qx) (hn : NoClash all oy ox qy.2.2 qx.2.2) :
    ∃ qx' qy', gv E cf all s.M s.eval ox = some qx' ∧ qx'.2.2 = qx.2.2 ∧ gv E cf all (after s ox qx').M (after s ox qx').eval oy = some qy' ∧ qy'.2.2 = qy.2.2 ∧ after (after s ox qx') oy qy' = after (after s oy qy) ox qx := by
  obtain ⟨n1, n2, n3, n4, n5⟩ := noClash_spec hn
  have hM : (after s oy qy).M = qy.1 := put_M
  rw [hM] at hx
  rw [show gv E cf all qy.1 (after s oy qy).eval ox = gv E cf all qy.1 s.eval ox from gv_congr (fun x hx => put_eval_const hx) (fun t ht => put_get_ne (fun e => (n1 t e).1 ht))] at hx
  have back : ∀ q, gv E cf all (after s ox q).M (after s ox q).eval oy = gv E cf all q.1 s.eval oy := by
    intro q
    have : (after s ox q).M = q.1 := put_M
    rw [this]
    exact gv_congr (fun x hx => put_eval_const hx) (fun t ht => put_get_ne (fun e => n2 t e ht))
  cases hxh : qx.2.2.heavy with
  | false =>
    obtain ⟨e1, r1⟩ := gv_read hx hxh
    have h1 := r1 s.M (fun id hid hd => by
      cases hyh : qy.2.2.heavy with
      | false => rw [(gv_read hy hyh).1]
      | true =>
        obtain ⟨k, hn⟩ := gv_loc hy hyh
        obtain ⟨a1, a2⟩ := n4 hyh id hid
        rw [hn] at a2
        exact (k.keep id a2 a1).symm)
    refine ⟨(s.M, qx.2), qy, h1, rfl, by rw [back]; exact hy, rfl, ?_⟩
    unfold after
    rw [e1]
    exact (put_comm (fun d hd => (n1 d hd).2) _ _ _).symm
  | true =>
    have hyh : qy.2.2.heavy = false := by
      cases h : qy.2.2.heavy with
      | false => rfl
      | true => exact absurd ⟨h, hxh⟩ n3
    obtain ⟨e1, r1⟩ := gv_read hy hyh
    rw [e1] at hx
    obtain ⟨k, _⟩ := gv_loc hx hxh
    have h1 := r1 qx.1 (fun id hid hd => k.keep id (pl_lt rfl hd) (n5 hxh id hid))
    refine ⟨qx, (qx.1, qy.2), hx, rfl, by rw [back]; exact h1, rfl, ?_⟩
    unfold after
    exact (put_comm (fun d hd => (n1 d hd).2) _ _ _).symm

/-- an operation that clashes with none of those ahead of it may come first -/
theorem run_first {i : Nat} {f : Foot} {o : Oper} (ho : all[i]? = some o) : ∀ (A B : List (Nat × Foot)) (s s' : St), (∀ j g oj, (j, g) ∈ A → all[j]? = some oj → NoClash all oj o g f) → Run E cf all (A ++ (i, f) :: B) s s' → Run E cf all ((i, f) :: (A ++ B)) s s'
  | [], B, s, s', _, h => h
  | (j, g) :: A, B, s, s', hA, h => by
    cases h with
    | @cons _ _ _ _ _ oj qy hoj hy hfy h =>
      have h2 := run_first ho A B _ s' (fun k g' ok hk => hA k g' ok (by simp [hk])) h
      cases h2 with
      | @cons _ _ _ _ _ o' qx ho' hx hfx h3 =>
        rw [ho] at ho'; cases ho'
        have hn := hA j g oj (by simp) hoj
        obtain ⟨qx', qy', a1, a2, a3, a4, a5⟩ := swap hy hx (by rw [hfy, hfx]; exact hn)
        refine .cons ho a1 (a2.trans hfx) (.cons hoj a3 (a4.trans hfy) ?_)
        rw [a5]; exact h3
end
end Go.Proofs.Ytfkkigbbejhfbaa.Idl
/- A drawn order, whichever: as if the text's. -/
namespace Go.Proofs.Ytfkkigbbejhfbaa.Idl
open Go
variable {P : Program}

def Anc (bs : List Nat) (k j : Nat) : Prop := (bs.getD j 0).testBit k = true

theorem fold_bit (acc : List Nat) (k : Nat) : ∀ (l : List Edge) (m : Nat), (l.foldl (fun s e => if Region.binds .any e = true then s ||| 2 ^ e.on ||| acc.getD e.on 0 else s) m).testBit k = true →
    m.testBit k = true ∨ ∃ e, e ∈ l ∧ Region.binds .any e = true ∧ (e.on = k ∨ (acc.getD e.on 0).testBit k = true)
  | [], m, h => .inl h
  | e :: l, m, h => by
    simp only [List.foldl_cons] at h
    rcases fold_bit acc k l _ h with h | ⟨e', h1, h2, h3⟩
    · split at h
      · rename_i hb
        rw [Nat.testBit_or, Nat.testBit_or, Bool.or_eq_true, Bool.or_eq_true] at h
        rcases h with (h | h) | h
        · exact .inl h
        · rw [Nat.testBit_two_pow] at h
          exact .inr ⟨e, by simp, hb, .inl (by simpa using h)⟩
        · exact .inr ⟨e, by simp, hb, .inr h⟩
      · exact .inl h
    · exact .inr ⟨e', by simp [h1], h2, h3⟩

/-- what the numbers tell -/
def AncsOK (all : List Oper) (acc : List Nat) : Prop := ∀ j k, j < acc.length → (acc.getD j 0).testBit k = true → ∃ o e, all[j]? = some o ∧ e ∈ o.after.toList ∧ Region.binds .any e = true ∧ (e.on = k ∨ e.on < j ∧ (acc.getD e.on 0).testBit k = true)
theorem ancs_ok {all : List Oper} : ∀ (os : List Oper) (acc : List Nat), (∀ j, os[j]? = all[acc.length + j]?) → AncsOK all acc → AncsOK all (ancs os acc) ∧ acc.length ≤ (ancs os acc).length
  | [], acc, _, h => ⟨h, Nat.le_refl _⟩
  | o :: os, acc, hall, h => by
    have ho : all[acc.length]? = some o := by simpa using (hall 0).symm
    unfold ancs
    obtain ⟨h1, h2⟩ := ancs_ok os (acc ++ [o.after.toList.foldl (fun s e => if Region.binds .any e = true then s ||| 2 ^ e.on ||| acc.getD e.on 0 else s) 0]) (fun j => by
      have := hall (j + 1); simpa [Nat.add_assoc, Nat.add_comm 1 j] using this) (fun j k hj hb => by
      simp only [List.length_append, List.length_singleton] at hj
      have getl : ∀ i, i < acc.length → (acc ++ [o.after.toList.foldl (fun s e => if Region.binds .any e = true then s ||| 2 ^ e.on ||| acc.getD e.on 0 else s) 0]).getD i 0 = acc.getD i 0 := by
        intro i hi
        simp only [List.getD_eq_getElem?_getD]
        rw [List.getElem?_append_left hi]
      by_cases hj2 : j < acc.length
      · rw [getl j hj2] at hb
        obtain ⟨o', e, a1, a2, a3, a4⟩ := h j k hj2 hb
        refine ⟨o', e, a1, a2, a3, ?_⟩
        rcases a4 with a4 | ⟨a4, a5⟩
        · exact .inl a4
        · exact .inr ⟨a4, by rw [getl e.on (by omega)]; exact a5⟩
      · have hj3 : j = acc.length := by omega
        subst hj3
        simp only [List.getD_eq_getElem?_getD] at hb
        rw [List.getElem?_append_right (Nat.le_refl _)] at hb
        simp only [Nat.sub_self, List.getElem?_cons_zero, Option.getD_some] at hb
        have hb' := fold_bit acc k o.after.toList 0 (by simpa only [List.getD_eq_getElem?_getD] using hb)
        rcases hb' with hb' | ⟨e, a1, a2, a3⟩
        · simp at hb'
        · refine ⟨o, e, ho, a1, a2, ?_⟩
          rcases a3 with a3 | a3
          · exact .inl a3
          · refine .inr ?_
            have hlt : e.on < acc.length := by
              rcases Nat.lt_or_ge e.on acc.length with h' | h'
              · exact h'
              · rw [List.getD_eq_getElem?_getD, List.getElem?_eq_none h'] at a3
                simp at a3
            exact ⟨hlt, by rw [getl e.on hlt]; exact a3⟩)
    simp only [List.length_append, List.length_singleton] at h2
    exact ⟨h1, by omega⟩

theorem edges_ok {all : List Oper} : ∀ (os : List Oper) (j : Nat), (∀ i, os[i]? = all[j + i]?) → edgesOK os j = true → ∀ i o e, j ≤ i → all[i]? = some o → e ∈ o.after → Region.binds .any e = true → e.on < i
  | [], j, hall, _, i, o, e, hji, ho, _, _ => by
    have := hall (i - j)
    rw [show j + (i - j) = i by omega, ho] at this
    simp at this
  | o' :: os, j, hall, h, i, o, e, hji, ho, he, hb => by
    simp only [edgesOK, Bool.and_eq_true, List.all_eq_true, Bool.or_eq_true, Bool.not_eq_true', decide_eq_true_eq] at h
    by_cases hij : i = j
    · subst hij
      have := hall 0
      simp only [List.getElem?_cons_zero, Nat.add_zero, ho, Option.some.injEq] at this
      subst this
      rcases h.1 e (Array.mem_toList_iff.2 he) with h1 | h1
      · rw [h1] at hb; cases hb
      · exact h1
    · exact edges_ok os (j + 1) (fun k => by have := hall (k + 1); simpa [Nat.add_assoc, Nat.add_comm 1 k] using this) h.2 i o e (by omega) ho he hb

section
variable {F : Fx} {S S' : Nat → Prop} {own own' : Nat → Option Nat} {T T' : Nat → Value} {a : Act} {w : World} {R : Type} {E : Env} {cf : CallF}
variable {rd : Option Nat} {nz : Nat}

theorem any_sound (hE : EnvOK P E) (hcf : CallsOK P cf) {ops : Array Oper} {K : St → Option R} {r : R} {Q : Exit → Act → World → Prop} (hQ : ∀ a w, HPost F K r a w → Q .normal a w)
    (hedge : ∀ i o e, ops.toList[i]? = some o → e ∈ o.after → Region.binds .any e = true → e.on < i) {bs : List Nat} (hbs : ∀ j k, Anc bs k j → ∃ o e, ops.toList[j]? = some o ∧ e ∈ o.after.toList ∧ Region.binds .any e = true ∧ (e.on = k ∨ e.on < j ∧ Anc bs k e.on)) :
    ∀ (n : Nat) (L : List (Nat × Foot)) (listed : Array Bool) (S : Nat → Prop) (own : Nat → Option Nat) (T : Nat → Value) (s s' : St) (a : Act) (w : World), L.length = n → listed.size = ops.size → FR F S own T s a w → Run E cf ops.toList L s s' → K s' = some r →
      (L.map (·.1)).Pairwise (· < ·) → L.Pairwise (fun x y => Anc bs x.1 y.1 ∨ ∀ ox oy, ops.toList[x.1]? = some ox → ops.toList[y.1]? = some oy → NoClash ops.toList ox oy x.2 y.2) →
      (∀ j, listed.getD j true = false ↔ j ∈ L.map (·.1)) → (∀ j k, j ∉ L.map (·.1) → Anc bs k j → k ∉ L.map (·.1)) → wpAnyIn (Zr rd) nz P .any ops Q n listed a w
  | 0, L, listed, S, own, T, s, s', a, w, hl, hsz, h, hrun, hk, _, _, hlist, _ => by
    have : L = [] := List.eq_nil_of_length_eq_zero hl
    subst this
    cases hrun
    refine ⟨?_, hQ a w ⟨S, own, T, s, h, hk⟩⟩
    rw [List.eq_nil_iff_forall_not_mem]
    intro j hj
    have := (hlist j).1 (mem_ready.1 hj).1
    simp at this
  | n + 1, L, listed, S, own, T, s, s', a, w, hl, hsz, h, hrun, hk, hsort, hpw, hlist, hclos => by
    have listed_of : ∀ j, j < ops.size → j ∉ L.map (·.1) → listed.getD j false = true := by
      intro j hj hn
      have h1 : listed.getD j true ≠ false := fun e => hn ((hlist j).1 e)
      have hj2 : j < listed.size := by omega
      simp only [Array.getD_eq_getD_getElem?, Array.getElem?_eq_getElem hj2, Option.getD_some] at h1 ⊢
      simpa using h1
    refine ⟨fun hr => ?_, fun i hi => ?_⟩
    · exfalso
      cases L with
      | nil => simp at hl
      | cons x L =>
        obtain ⟨i, f⟩ := x
        cases hrun with
        | @cons _ _ _ _ _ o q ho hq hf hrun =>
          have hmem : i ∈ Region.ready .any ops listed := by
            rw [mem_ready]
            refine ⟨(hlist i).2 (by simp), o, by simpa using ho, fun e he hb => ?_⟩
            have hlt := hedge i o e ho he hb
            have hi : i < ops.size := by have := (List.getElem?_eq_some_iff.1 ho).1; simpa using this
            refine listed_of e.on (by omega) (fun hm => ?_)
            simp only [List.map_cons, List.mem_cons] at hm
            rcases hm with hm | hm
            · omega
            · have h9 : i < e.on := (List.pairwise_cons.1 hsort).1 e.on hm
              omega
          rw [hr] at hmem
          cases hmem
    · obtain ⟨h0, o, ho, hall⟩ := mem_ready.1 hi
      have hiL := (hlist i).1 h0
      obtain ⟨⟨i', f⟩, hmem, e0⟩ := List.mem_map.1 hiL
      simp only at e0
      subst e0
      obtain ⟨A, B, rfl⟩ := List.append_of_mem hmem
      have ho' : ops.toList[i']? = some o := by simpa using ho
      have nAnc : ∀ k, k ∈ (A ++ (i', f) :: B).map (·.1) → ¬ Anc bs k i' := by
        intro k hkL hanc
        obtain ⟨o2, e, a1, a2, a3, a4⟩ := hbs i' k hanc
        rw [ho'] at a1; cases a1
        have hle := hall e (Array.mem_toList_iff.1 a2) a3
        have hlt := hedge i' o e ho' (Array.mem_toList_iff.1 a2) a3
        have hnot : e.on ∉ (A ++ (i', f) :: B).map (·.1) := by
          intro hm
          have h1 := (hlist e.on).2 hm
          have hi : i' < ops.size := (Array.getElem?_eq_some_iff.1 ho).1
          have hj2 : e.on < listed.size := by omega
          simp only [Array.getD_eq_getD_getElem?, Array.getElem?_eq_getElem hj2, Option.getD_some] at h1 hle
          rw [h1] at hle; cases hle
        rcases a4 with a4 | ⟨_, a4⟩
        · exact hnot (by rw [a4]; exact hkL)
        · exact hclos e.on k hnot a4 hkL
      have hmv := run_first ho' A B s s' (fun j g oj hA hoj => by
        rw [List.pairwise_append] at hpw
        rcases hpw.2.2 (j, g) hA (i', f) (by simp) with hx | hx
        · exact absurd hx (nAnc j (by simp only [List.map_append, List.mem_append]; exact .inl (List.mem_map.2 ⟨(j, g), hA, rfl⟩)))
        · exact hx oj o hoj ho') hrun
      cases hmv with
      | @cons _ _ _ _ _ o2 q ho2 hq hf hrun2 =>
        rw [ho'] at ho2; cases ho2
        have hsub : (A ++ B).Sublist (A ++ (i', f) :: B) := List.Sublist.append_left (List.sublist_cons_self _ _) A
        have hmemAB : ∀ j, j ∈ (A ++ B).map (·.1) ↔ j ∈ (A ++ (i', f) :: B).map (·.1) ∧ j ≠ i' := by
          intro j
          have hnd : ((A ++ (i', f) :: B).map (·.1)).Nodup := hsort.imp (fun h => Nat.ne_of_lt h)
          simp only [List.map_append, List.map_cons, List.mem_append, List.mem_cons] at hnd ⊢
          rw [List.nodup_append, List.nodup_cons] at hnd
          constructor
          · rintro (hx | hx)
            · exact ⟨.inl hx, fun e => hnd.2.2 j hx i' (by simp) e⟩
            · exact ⟨.inr (.inr hx), fun e => hnd.2.1.1 (by rw [← e]; exact hx)⟩
          · rintro ⟨hx | hx | hx, hne⟩
            · exact .inl hx
            · exact absurd hx hne
            · exact .inr hx
        have hi' : i' < listed.size := by have := (Array.getElem?_eq_some_iff.1 ho).1; omega
        have next : ∀ a1 w1, HPost F some (after s o q) a1 w1 → wpAnyIn (Zr rd) nz P .any ops Q n (listed.setIfInBounds i' true) a1 w1 := by
          rintro a1 w1 ⟨S1, own1, T1, s1, h1, e1⟩
          cases e1
          refine any_sound hE hcf hQ hedge hbs n (A ++ B) _ S1 own1 T1 _ s' a1 w1 (by simp at hl ⊢; omega) (by simp [hsz]) h1 hrun2 hk (hsort.sublist (hsub.map _)) (hpw.sublist hsub) (fun j => ?_) (fun j k hj hanc hkm => ?_)
          · rw [hmemAB]
            by_cases hji : j = i'
            · subst hji
              simp [hi']
            · rw [getD_set_ne true (Ne.symm hji), hlist j]
              exact ⟨fun h => ⟨h, hji⟩, fun h => h.1⟩
          · have hk2 := ((hmemAB k).1 hkm).1
            by_cases hji : j = i'
            · subst hji
              exact nAnc k hk2 hanc
            · exact hclos j k (fun hm => hj ((hmemAB j).2 ⟨hm, hji⟩)) hanc hk2
        have hG := iopG_sound (rd := rd) (nz := nz) (F := F) (K := some) (r := after s o q) (Q := Q) (all := ops.toList) (o := o) hE hcf h (by rw [iopG_gv hq])
        unfold wpOpIn
        rw [ho]
        simp only
        rw [show ops.toList.toArray = ops from by simp] at hG
        split
        · rename_i hw
          rw [if_pos hw] at hG
          exact Oper.wpIn_mono next hG
        · rename_i hw
          rw [if_neg hw] at hG
          exact ⟨fun f _ => Zr_fn rd f, next _ _ hG⟩

theorem draw_ok (hm : P.follows .mixedOrders = true) (hE : EnvOK P E) (hcf : CallsOK P cf) : DrawOK P E cf := by
  intro R rd nz F S own T s a w K r id ops h hk
  unfold iregion at hk
  simp only [cond_true] at hk
  obtain ⟨L, s', hrun, hidx, hk⟩ := iopsD_run (all := ops.toList) 0 ops.toList s [] _ r (fun j => by simp) hk
  simp only [List.nil_append] at hk
  cases hg : goodDraw ops.toList (ancs ops.toList []) (L.map (·.2)) with
  | false => rw [hg] at hk; simp at hk
  | true =>
    rw [hg] at hk
    simp only [cond_true] at hk
    simp only [goodDraw, Bool.and_eq_true, List.all_eq_true, List.mem_range, Bool.or_eq_true] at hg
    obtain ⟨hg1, hg2⟩ := hg
    obtain ⟨ha1, _⟩ := ancs_ok (all := ops.toList) ops.toList [] (fun j => by simp) (fun j k hj => by simp at hj)
    have hlen : L.length = ops.size := by have := congrArg List.length hidx; simpa using this
    have hfr : FR F S own T s a { w with drawn := w.drawn + 1 } := by
      obtain ⟨a1, a2, a3, a4, a5, a6, a7, a8, a9, a10, a11, a12, a13⟩ := h
      have L0 : Later S S w { w with drawn := w.drawn + 1 } T T s.M s.M := ⟨fun _ h => h, fun _ _ => rfl, fun _ _ => rfl, Nat.le_refl _, fun _ o a _ h => ⟨o, a, h, rfl, rfl⟩⟩
      exact ⟨a1, fun t v c hv hc => (a2 t v c hv hc).later L0, fun id c hc => (a3 id c hc).later L0 (List.getElem?_eq_some_iff.1 hc).1 (fun b hb => ⟨hb, rfl⟩), a4, a5, a6, a7, a8, a9, a10, a11, a12, a13⟩
    have getL : ∀ (p : Nat) x, L[p]? = some x → x.1 = p ∧ (L.map (·.2))[p]? = some x.2 := by
      intro p x hp
      have h1 : (L.map (·.1))[p]? = some x.1 := by rw [List.getElem?_map, hp]; rfl
      rw [hidx, List.getElem?_range'] at h1
      · simp at h1
        exact ⟨h1.symm, by rw [List.getElem?_map, hp]; rfl⟩
      · have := (List.getElem?_eq_some_iff.1 hp).1
        rw [hlen] at this; simpa using this
    refine wpIn_mono (Q' := fun e a w => e = .normal ∧ HPost F K r a w) (wpIn_region_any hm ?_) (fun e a w h => h)
    have := any_sound (rd := rd) (nz := nz) (F := F) (K := K) (r := r) (Q := fun e a w => e = .normal ∧ HPost F K r a w) (bs := ancs ops.toList []) hE hcf (fun a w h => ⟨rfl, h⟩) (fun i o e ho he hb => edges_ok ops.toList 0 (fun j => by simp) hg1 i o e (Nat.zero_le _) ho he hb)
      (fun j k hanc => by
        have hj : j < (ancs ops.toList []).length := by
          rcases Nat.lt_or_ge j (ancs ops.toList []).length with h' | h'
          · exact h'
          · unfold Anc at hanc
            rw [List.getD_eq_getElem?_getD, List.getElem?_eq_none h'] at hanc
            simp at hanc
        exact ha1 j k hj hanc) ops.size L (Array.replicate ops.size false) S own T s s' a _ hlen (by simp) hfr hrun hk ?_ ?_ ?_ ?_
    · exact this
    · rw [hidx]
      exact List.pairwise_lt_range' (s := 0) (n := ops.toList.length) (step := 1)
    · rw [List.pairwise_iff_getElem]
      intro p q hp hq hpq
      obtain ⟨e1, e2⟩ := getL p L[p] (List.getElem?_eq_getElem hp)
      obtain ⟨e3, e4⟩ := getL q L[q] (List.getElem?_eq_getElem hq)
      have hql : q < ops.toList.length := by simp; omega
      rcases hg2 q hql p hpq with hx | hx
      · refine .inl ?_
        rw [e1, e3]; exact hx
      · refine .inr (fun ox oy hox hoy => ?_)
        rw [e1] at hox
        rw [e3] at hoy
        rw [hox, hoy, e2, e4] at hx
        unfold NoClash
        simpa using hx
    · intro j
      rw [hidx]
      simp only [List.mem_range', Nat.zero_add, Array.getD_eq_getD_getElem?]
      constructor
      · intro hj
        have hlt : j < ops.size := by
          rcases Nat.lt_or_ge j ops.size with h' | h'
          · exact h'
          · rw [Array.getElem?_eq_none (by simpa using h')] at hj; simp at hj
        exact ⟨j, by simpa using hlt, by omega⟩
      · rintro ⟨i, hi, rfl⟩
        have : i < ops.size := by simpa using hi
        simp [this]
    · intro j k hj hanc hkm
      rw [hidx] at hj hkm
      simp only [List.mem_range', Nat.zero_add] at hj hkm
      obtain ⟨o, e, ho, he, hb, h3⟩ := ha1 j k (by
        rcases Nat.lt_or_ge j (ancs ops.toList []).length with h' | h'
        · exact h'
        · unfold Anc at hanc
          rw [List.getD_eq_getElem?_getD, List.getElem?_eq_none h'] at hanc
          simp at hanc) hanc
      exact hj ⟨j, (List.getElem?_eq_some_iff.1 ho).1, by omega⟩
end
end Go.Proofs.Ytfkkigbbejhfbaa.Idl
