/- Results, laid into places; objects that come back. -/
import Derived.Test.YtfkkigbbejhfbaaSound15
namespace Go.Proofs.Ytfkkigbbejhfbaa.Idl
open Go
variable {P : Program}
section
variable {F : Fx} {S S' : Nat → Prop} {own own' : Nat → Option Nat} {T T' : Nat → Value} {s : St} {a : Act} {w w' : World} {M M' : List V} {R : Type}

theorem lay_sound (h : FR F S own T { s with M := M } a w) {v : Value} {c : V} {fp : List Nat} (ho : OwnV S w v fp c) (hf : Free F S own w fp) :
    ∃ own' T', FR F S own' T' { s with M := (lay M c).1 } a w ∧ Laid F S own own' w T T' M (lay M c).1 fp ∧ RTA S w T' (lay M c).1 v (lay M c).2 ∧ (∀ l, (lay M c).2 ≠ .tup l) := by
  have leaf : OwnL S w v fp c → (∀ l, c ≠ .agg l) → (∀ l, c ≠ .pt l) → lay M c = lay1 M c → ∃ own' T', FR F S own' T' { s with M := (lay M c).1 } a w ∧ Laid F S own own' w T T' M (lay M c).1 fp ∧ RTA S w T' (lay M c).1 v (lay M c).2 ∧ (∀ l, (lay M c).2 ≠ .tup l) := by
    intro ho hna hnp e
    rw [e]
    obtain ⟨own', T', f, k, d, rr, _⟩ := lay1_sound h ho hf
    have hc : (∀ l, (lay1 M c).2 ≠ .agg l) ∧ (∀ l, (lay1 M c).2 ≠ .tup l) := by
      cases c with
      | sl o ar => cases o <;> simp [lay1]
      | agg l => exact absurd rfl (hna l)
      | tup l => exact absurd ho.1 (fun h => by cases h)
      | _ => simp [lay1]
    exact ⟨own', T', f, k, .of_rt rr hc.1, hc.2⟩
  cases c with
  | agg l =>
    obtain ⟨cs, fps, rfl, h1, h2, h3, rfl⟩ := ho
    obtain ⟨own', T', f, k, e, rr, _⟩ := layL_sound l M own T cs fps h h1 h2 h3 hf
    exact ⟨own', T', f, k, ⟨cs, rfl, by simp [e, h1], rr⟩, by simp [lay]⟩
  | pt l =>
    obtain ⟨b, cs, e, fps, rfl, h0, h1, h2, h3, rfl, h4⟩ := ho
    have hf2 : Free F S own w ([b] ++ fps.flatten) := hf
    obtain ⟨own1, T1, f1, k1, e1, r1, o1⟩ := layL_sound l M own T cs fps h h1 h2 h3 (hf2.append_right (fun _ _ => rfl))
    have hb := hf.2 b (by simp)
    have hown1 : own1 b = none := by
      rw [k1.hown b (fun hm => (List.nodup_cons.1 hf.1).1 hm)]
      exact hb.2.2.2
    have okc : ∀ (j : Nat) c, (layL M l).2[j]? = some c → okCell c = true := by
      intro j c hc
      have hj : j < l.length := by rw [← e1]; exact (List.getElem?_eq_some_iff.1 hc).1
      exact o1 j l[j] c (List.getElem?_eq_getElem hj) hc (h4 j l[j] (List.getElem?_eq_getElem hj))
    obtain ⟨own2, T2, f2, hT2, hTo, L2, hown2⟩ := FR.newPlace (s := { s with M := (layL M l).1 }) (w' := w) f1 (.pointer (some ⟨b, 0, none⟩)) (.pt (layL M l).2) (some b) (fun _ _ _ => rfl) (Nat.le_refl _) ⟨rfl, rfl, rfl⟩
      (fun b' hb' => by cases hb'; exact ⟨hb.1, fun _ => ⟨hb.2.1, hb.2.2.1, hown1⟩⟩)
      (fun own' T' ho hT _ L => ⟨b, cs.toArray, e, hT, h0, by simp [h1, e1], fun j x c hx hc => ⟨okc j c hc, ((r1 j x c (by simpa using hx) hc).2).later L⟩, ho b rfl⟩)
    refine ⟨own2, T2, f2, ⟨k1.later.trans L2, fun b' hb' => ?_, fun id hid => ?_⟩, ?_, by simp [lay]⟩
    · rw [hown2 b', if_neg (by intro e'; cases e'; exact hb' (by simp)), k1.hown b' (fun hm => hb' (by simp [hm]))]
    · simp only [lay]
      rw [pl_push, if_neg (by have := k1.later.hM; omega), k1.pl id hid]
    · exact ⟨by simp [lay], b, hT2, rfl⟩
  | sl o ar => exact leaf ho (by simp) (by simp) rfl
  | _ => exact leaf ho (by simp) (by simp) rfl

theorem layAll_sound : ∀ (l : List V) (M : List V) (own : Nat → Option Nat) (T : Nat → Value) (xs : List Value) (fps : List (List Nat)), FR F S own T { s with M := M } a w → xs.length = l.length → fps.length = l.length →
    (∀ (j : Nat) x f c, xs[j]? = some x → fps[j]? = some f → l[j]? = some c → OwnV S w x f c) → Free F S own w fps.flatten →
    ∃ own' T', FR F S own' T' { s with M := (layAll M l).1 } a w ∧ Laid F S own own' w T T' M (layAll M l).1 fps.flatten ∧ (layAll M l).2.length = l.length ∧
      (∀ (j : Nat) x c, xs[j]? = some x → (layAll M l).2[j]? = some c → RTA S w T' (layAll M l).1 x c)
  | [], M, own, T, xs, fps, h, _, hf, _, _ => by
    have : fps = [] := List.eq_nil_of_length_eq_zero (by simpa using hf)
    subst this
    exact ⟨own, T, h, .nil, rfl, fun j x c _ hc => by simp [layAll] at hc⟩
  | c :: l, M, own, T, [], fps, h, hl, _, _, _ => by simp at hl
  | c :: l, M, own, T, x :: xs, [], h, _, hl, _, _ => by simp at hl
  | c :: l, M, own, T, x :: xs, f :: fps, h, hl, hl2, ho, hfree => by
    have hfree : Free F S own w (f ++ fps.flatten) := hfree
    obtain ⟨own1, T1, h1, k1, r1, _⟩ := lay_sound h (ho 0 x f c rfl rfl rfl) hfree.append_left
    obtain ⟨own2, T2, h2, k2, e2, r2⟩ := layAll_sound l (lay M c).1 own1 T1 xs fps h1 (by simpa using hl) (by simpa using hl2) (fun j x f c hx hf hc => ho (j + 1) x f c hx hf hc) (hfree.append_right k1.hown)
    refine ⟨own2, T2, h2, k1.trans k2, by simp [layAll, e2], fun j y d hy hd => ?_⟩
    cases j with
    | zero =>
      simp only [layAll, List.getElem?_cons_zero, Option.some.injEq] at hy hd
      subst hy hd
      exact r1.later k2.later
    | succ j => exact r2 j y d hy (by simpa [layAll] using hd)

theorem layRes_sound (h : FR F S own T { s with M := M } a w) {v : Value} {c : V} {fp : List Nat} (ho : OwnT S w v fp c) (hf : Free F S own w fp) :
    ∃ own' T', FR F S own' T' { s with M := (layRes M c).1 } a w ∧ RTV S w T' (layRes M c).1 v (layRes M c).2 := by
  by_cases ht : ∃ l, c = .tup l
  · obtain ⟨l, rfl⟩ := ht
    obtain ⟨cs, fps, rfl, h1, h2, h3, rfl⟩ := ho
    obtain ⟨own', T', f, k, e, rr⟩ := layAll_sound l M own T cs fps h h1 h2 h3 hf
    exact ⟨own', T', f, cs, rfl, by simp [e, h1], rr⟩
  · have hn : ∀ l, c ≠ .tup l := fun l e => ht ⟨l, e⟩
    rw [ownt_eq hn] at ho
    have e : layRes M c = lay M c := by
      cases c with
      | tup l => exact absurd rfl (hn l)
      | _ => rfl
    rw [e]
    obtain ⟨own', T', f, k, rr, hnt⟩ := lay_sound h ho hf
    exact ⟨own', T', f, .of_rta rr hnt⟩

/-- one object comes back -/
theorem back1_sound (h : FR F S own T { s with M := M } a w) {id : Nat} {l : List V} {fp : List Nat} (hid : id < M.length) (ho : OwnV S w (T id) fp (.pt l)) (hf : Free F S own w fp) :
    ∃ own' T', FR F S own' T' { s with M := (layL M l).1.set id (.pt (layL M l).2) } a w ∧ (∀ b, b ∉ fp → own' b = own b) ∧ (∀ j, j < M.length → T' j = T j) ∧ M.length ≤ ((layL M l).1.set id (.pt (layL M l).2)).length := by
  obtain ⟨b, cs, e, fps, hT, h0, h1, h2, h3, rfl, h4⟩ := ho
  have hf2 : Free F S own w ([b] ++ fps.flatten) := hf
  obtain ⟨own1, T1, f1, k1, e1, r1, o1⟩ := layL_sound l M own T cs fps h h1 h2 h3 (hf2.append_right (fun _ _ => rfl))
  have hb := hf.2 b (by simp)
  have hown1 : own1 b = none := by
    rw [k1.hown b (fun hm => (List.nodup_cons.1 hf.1).1 hm)]
    exact hb.2.2.2
  have okc : ∀ (j : Nat) c, (layL M l).2[j]? = some c → okCell c = true := by
    intro j c hc
    have hj : j < l.length := by rw [← e1]; exact (List.getElem?_eq_some_iff.1 hc).1
    exact o1 j l[j] c (List.getElem?_eq_getElem hj) hc (h4 j l[j] (List.getElem?_eq_getElem hj))
  have hid1 : id < (layL M l).1.length := Nat.lt_of_lt_of_le hid k1.later.hM
  let own2 : Nat → Option Nat := fun b' => if b' = b then some id else own1 b'
  have L : Later S S w w T1 T1 (layL M l).1 ((layL M l).1.set id (.pt (layL M l).2)) := ⟨fun _ h => h, fun _ _ => rfl, fun _ _ => rfl, by simp, fun j o ar _ hp => by
    rw [pl_set] at hp
    split at hp
    · cases hp
    · exact ⟨o, ar, hp, rfl, rfl⟩⟩
  refine ⟨own2, T1, FR.change (s := { s with M := (layL M l).1 }) f1 L (fun j c hc => ?_) (fun b' j hb' => ?_) (fun b' hb' => f1.slt b' hb') (fun _ _ => rfl) (Nat.le_refl _) ⟨rfl, rfl, rfl⟩ (fun _ hb => .inl hb), fun b' hb' => ?_, fun j hj => k1.later.hT j hj, by simpa using k1.later.hM⟩
  · by_cases hj : j = id
    · subst hj
      rw [List.getElem?_set_self hid1] at hc
      cases hc
      exact ⟨b, cs.toArray, e, by rw [k1.later.hT _ hid]; exact hT, h0, by simp [h1, e1], fun j x c hx hc => ⟨okc j c hc, ((r1 j x c (by simpa using hx) hc).2).later L⟩, by simp [own2]⟩
    · rw [List.getElem?_set_ne (Ne.symm hj)] at hc
      refine (f1.places j c hc).later L (List.getElem?_eq_some_iff.1 hc).1 (fun b' hb' => ⟨?_, rfl⟩)
      have : b' ≠ b := by rintro rfl; rw [hown1] at hb'; cases hb'
      simp [own2, this, hb']
  · by_cases hbb : b' = b
    · subst hbb
      simp only [own2, if_true, Option.some.injEq] at hb'
      subst hb'
      exact ⟨hb.1, hb.2.1, hb.2.2.1, by simpa using hid1⟩
    · simp only [own2, if_neg hbb] at hb'
      obtain ⟨h1, h2, h3, h4⟩ := f1.own b' j hb'
      exact ⟨h1, h2, h3, by simpa using h4⟩
  · have : b' ≠ b := by rintro rfl; exact hb' (by simp)
    simp only [own2, if_neg this]
    exact k1.hown b' (fun hm => hb' (by simp [hm]))

theorem backAll_sound : ∀ (ids : List Nat) (outs : List V) (M : List V) (own : Nat → Option Nat) (T : Nat → Value) (ofps : List (List Nat)) (fp : List Nat) (Kc : List V → Option R) (r : R), FR F S own T { s with M := M } a w →
    (∀ id, id ∈ ids → id < M.length) → OwnVs S w (ids.map T) ofps outs → Free F S own w (ofps.flatten ++ fp) → backAll M ids outs Kc = some r →
    ∃ own' T' M', FR F S own' T' { s with M := M' } a w ∧ Free F S own' w fp ∧ Kc M' = some r
  | [], [], M, own, T, ofps, fp, Kc, r, h, _, ho, hf, hk => by
    have : ofps = [] := List.eq_nil_of_length_eq_zero (by simpa using ho.2.1)
    subst this
    exact ⟨own, T, M, h, by simpa using hf, hk⟩
  | [], _ :: _, M, own, T, ofps, fp, Kc, r, h, _, ho, hf, hk => by simp [backAll] at hk
  | id :: ids, [], M, own, T, ofps, fp, Kc, r, h, _, ho, hf, hk => by simp [backAll] at hk
  | id :: ids, c :: outs, M, own, T, [], fp, Kc, r, h, _, ho, hf, hk => by have := ho.2.1; simp at this
  | id :: ids, c :: outs, M, own, T, f :: ofps, fp, Kc, r, h, hid, ho, hf, hk => by
    cases c with
    | pt l =>
      simp only [backAll] at hk
      have hf2 : Free F S own w (f ++ (ofps.flatten ++ fp)) := by rw [← List.append_assoc]; exact hf
      obtain ⟨own1, T1, f1, ho1, hT1, hM1⟩ := back1_sound h (hid id (by simp)) (ho.2.2 0 (T id) f (.pt l) rfl rfl rfl) hf2.append_left
      refine backAll_sound ids outs _ own1 T1 ofps fp Kc r f1 (fun j hj => Nat.lt_of_lt_of_le (hid j (by simp [hj])) hM1) ?_ (hf2.append_right ho1) hk
      have hmap : ids.map T1 = ids.map T := List.map_congr_left (fun j hj => hT1 j (hid j (by simp [hj])))
      rw [hmap]
      refine ⟨by have := ho.1; simpa using this, by have := ho.2.1; simpa using this, fun j x f c hx hf hc => ho.2.2 (j + 1) x f c hx hf hc⟩
    | _ => simp [backAll] at hk
end
end Go.Proofs.Ytfkkigbbejhfbaa.Idl
