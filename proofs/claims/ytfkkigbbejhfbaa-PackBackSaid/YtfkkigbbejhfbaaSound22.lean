/- A call is what its body computes. -/
import Derived.Test.YtfkkigbbejhfbaaSound21
namespace Go.Proofs.Ytfkkigbbejhfbaa.Idl
open Go
variable {P : Program}
section
variable {F : Fx} {S S' : Nat → Prop} {own own' : Nat → Option Nat} {T T' : Nat → Value} {s : St} {a : Act} {w w' : World} {M M' : List V} {R : Type}

/-- what is owned, given as shared -/
theorem shared1_sound {v : Value} {f : List Nat} {c : V} (h : OwnL S w v f c) (hS : ∀ b, S b → S' b) (hf : ∀ b, b ∈ f → S' b) : RepL S' w v c.toShared1 := by
  cases c with
  | sl o ar =>
    cases o with
    | true =>
      obtain ⟨h1, h2⟩ := h
      exact (h1.mono (S' := S') hS (fun _ _ => rfl) (fun _ _ => rfl)).share (fun b hb => hf b (by rw [h2, hb]; simp))
    | false => exact h.1.mono hS (fun _ _ => rfl)
  | _ => exact h.1.mono hS (fun _ _ => rfl)
theorem shared1_ne {c : V} : (∀ ar, c.toShared1 ≠ .sl true ar) := by
  intro ar
  cases c <;> simp [V.toShared1]
theorem ownl_of_rep {v : Value} {c : V} (h : RepL S w v c) : OwnL S w v [] c := by
  cases c with
  | sl o ar =>
    cases o with
    | true => cases h
    | false => exact ⟨h, rfl⟩
  | _ => exact ⟨h, rfl⟩
theorem ownv_of_rep {v : Value} {c : V} (h : RepL S w v c) : OwnV S w v [] c := by
  rw [ownv_eq (fun l e => by subst e; cases h) (fun l e => by subst e; cases h)]
  exact ownl_of_rep h

theorem toShared_sound {v : Value} {f : List Nat} {c : V} (h : OwnV S w v f c) (hS : ∀ b, S b → S' b) (hf : ∀ b, b ∈ f → S' b) : OwnV S' w v [] c.toShared := by
  cases c with
  | pt l =>
    obtain ⟨b, cs, e, fps, rfl, h0, h1, h2, h3, rfl, h4⟩ := h
    refine ownv_of_rep ?_
    have hcell : ∀ (j : Nat), w.cell? ⟨b, 0 + j, none⟩ = cs[j]? := by
      intro j
      simp [World.cell?, h0]
    refine .pv b 0 0 (l.map V.toShared1) (fun j => (cs[j]?).getD undef) (hf b (by simp)) (fun j c hc => ?_) (fun j c hc => ?_)
    · have hj : j < cs.length := by rw [h1]; have := (List.getElem?_eq_some_iff.1 hc).1; simpa using this
      rw [hcell, List.getElem?_eq_getElem hj]; rfl
    · have hj : j < l.length := by have := (List.getElem?_eq_some_iff.1 hc).1; simpa using this
      have hjc : j < cs.length := by omega
      have hjf : j < fps.length := by omega
      rw [List.getElem?_map, List.getElem?_eq_getElem hj] at hc
      simp only [Option.map_some, Option.some.injEq] at hc
      subst hc
      rw [List.getElem?_eq_getElem hjc, Option.getD_some]
      refine shared1_sound (h3 j cs[j] fps[j] l[j] (List.getElem?_eq_getElem hjc) (List.getElem?_eq_getElem hjf) (List.getElem?_eq_getElem hj)) hS (fun b hb => hf b ?_)
      exact List.mem_cons_of_mem _ (List.mem_flatten.2 ⟨fps[j], List.getElem_mem hjf, hb⟩)
  | agg l =>
    obtain ⟨cs, fps, rfl, h1, h2, h3, rfl⟩ := h
    refine ⟨cs, List.replicate l.length [], rfl, by simpa using h1, by simp, fun j x f c hx hff hc => ?_, by simp⟩
    have hfe : f = [] := by
      rw [List.getElem?_replicate] at hff
      split at hff
      · exact (Option.some.inj hff).symm
      · cases hff
    subst hfe
    rw [List.getElem?_map, Option.map_eq_some_iff] at hc
    obtain ⟨d, hd, rfl⟩ := hc
    have hj := (List.getElem?_eq_some_iff.1 hd).1
    have hjf : j < fps.length := by omega
    refine ownl_of_rep (shared1_sound (h3 j x fps[j] d hx (List.getElem?_eq_getElem hjf) hd) hS (fun b hb => hf b (List.mem_flatten.2 ⟨fps[j], List.getElem_mem hjf, hb⟩)))
  | sl o ar => exact ownv_of_rep (shared1_sound (c := .sl o ar) h hS hf)
  | dead => exact ownv_of_rep (shared1_sound (c := .dead) h hS hf)
  | bool b => exact ownv_of_rep (shared1_sound (c := .bool b) h hS hf)
  | int k n => exact ownv_of_rep (shared1_sound (c := .int k n) h hS hf)
  | str x => exact ownv_of_rep (shared1_sound (c := .str x) h hS hf)
  | nils => exact ownv_of_rep (shared1_sound (c := .nils) h hS hf)
  | nilp => exact ownv_of_rep (shared1_sound (c := .nilp) h hS hf)
  | nilf => exact ownv_of_rep (shared1_sound (c := .nilf) h hS hf)
  | tup l => exact absurd h.1 (fun h => by cases h)
  | pv l off => exact ownv_of_rep (shared1_sound (c := .pv l off) h hS hf)
  | fn g cap => exact ownv_of_rep (shared1_sound (c := .fn g cap) h hS hf)
  | rs id => exact absurd h.1 (fun h => by cases h)
  | pr id off => exact absurd h.1 (fun h => by cases h)
  | er id i off => exact absurd h.1 (fun h => by cases h)

/-- parts of what was owned, given up -/
def SubF (fps' fps : List (List Nat)) : Prop := fps'.length = fps.length ∧ ∀ (j : Nat) f f', fps[j]? = some f → fps'[j]? = some f' → f'.Sublist f
theorem SubF.flatten : ∀ {fps fps' : List (List Nat)}, SubF fps' fps → fps'.flatten.Sublist fps.flatten
  | [], fps', h => by
    have : fps' = [] := List.eq_nil_of_length_eq_zero (by simpa using h.1)
    subst this; simp
  | f :: fps, [], h => by have := h.1; simp at this
  | f :: fps, f' :: fps', h => by
    show (f' ++ fps'.flatten).Sublist (f ++ fps.flatten)
    exact (h.2 0 f f' rfl rfl).append (SubF.flatten ⟨by have := h.1; simpa using this, fun j g g' hg hg' => h.2 (j + 1) g g' hg hg'⟩)
theorem SubF.drop : ∀ {fps fps' : List (List Nat)}, SubF fps' fps → fps.flatten.Nodup →
    ∀ (j : Nat) f f' b, fps[j]? = some f → fps'[j]? = some f' → b ∈ f → b ∉ f' → b ∉ fps'.flatten
  | [], _, _, _, j, f, f', b, hf, _, _, _ => by simp at hf
  | _ :: _, [], h, _, _, _, _, _, _, _, _, _ => by have := h.1; simp at this
  | f :: fps, f' :: fps', h, hn, j, g, g', b, hg, hg', hb, hb' => by
    have h' : SubF fps' fps := ⟨by have := h.1; simpa using this, fun j g g' hg hg' => h.2 (j + 1) g g' hg hg'⟩
    have hn : (f ++ fps.flatten).Nodup := hn
    rw [List.nodup_append] at hn
    intro hm
    rcases List.mem_append.1 (show b ∈ f' ++ fps'.flatten from hm) with hm | hm
    · cases j with
      | zero => simp at hg hg'; subst hg hg'; exact hb' hm
      | succ j =>
        have hbf : b ∈ fps.flatten := List.mem_flatten.2 ⟨g, List.mem_of_getElem? (by simpa using hg), hb⟩
        exact hn.2.2 b ((h.2 0 f f' rfl rfl).subset hm) b hbf rfl
    · cases j with
      | zero =>
        simp at hg hg'; subst hg hg'
        exact hn.2.2 b hb b (h'.flatten.subset hm) rfl
      | succ j => exact h'.drop hn.2.1 j g g' b (by simpa using hg) (by simpa using hg') hb hb' hm
theorem SubF.refl (fps : List (List Nat)) : SubF fps fps := ⟨rfl, fun j f f' h1 h2 => by rw [h1] at h2; cases h2; exact List.Sublist.refl _⟩
theorem SubF.cons {f f' : List Nat} {fps fps' : List (List Nat)} (h : f'.Sublist f) (h' : SubF fps' fps) : SubF (f' :: fps') (f :: fps) := ⟨by simp [h'.1], fun j g g' hg hg' => by
  cases j with
  | zero => simp at hg hg'; subst hg hg'; exact h
  | succ j => exact h'.2 j g g' (by simpa using hg) (by simpa using hg')⟩

theorem fitC_sound (s : SL) {x : Value} {f : List Nat} {c : V} (h : OwnL S w x f c) :
    ∃ f' : List Nat, f'.Sublist f ∧ ∀ S' : Nat → Prop, (∀ b, S b → S' b) → (∀ b, b ∈ f → b ∉ f' → S' b) → OwnL S' w x f' (fitC s c) := by
  have same : ∃ f' : List Nat, f'.Sublist f ∧ ∀ S' : Nat → Prop, (∀ b, S b → S' b) → (∀ b, b ∈ f → b ∉ f' → S' b) → OwnL S' w x f' c := ⟨f, List.Sublist.refl _, fun S' hS _ => h.mono hS (fun _ _ => rfl) (fun _ _ => rfl)⟩
  unfold fitC
  split
  · rename_i a
    exact ⟨[], by simp, fun S' hS hf => ownl_of_rep (shared1_sound h hS (fun b hb => hf b hb (by simp)))⟩
  · exact same
theorem fitCs_len : ∀ (ss : List SL) (l : List V), (fitCs ss l).length = l.length
  | [], l => by cases l <;> rfl
  | s :: ss, [] => rfl
  | s :: ss, c :: l => by simp [fitCs, fitCs_len ss l]
theorem okP_fitC (s : SL) {c : V} (h : okP c = true) : okP (fitC s c) = true := by
  unfold fitC
  split
  · rfl
  · exact h
theorem okP_fitCs : ∀ (ss : List SL) (l : List V), (∀ (j : Nat) c, l[j]? = some c → okP c = true) → ∀ (j : Nat) c, (fitCs ss l)[j]? = some c → okP c = true
  | [], l, h, j, c, hc => h j c (by cases l <;> exact hc)
  | s :: ss, [], h, j, c, hc => by simp [fitCs] at hc
  | s :: ss, d :: l, h, j, c, hc => by
    cases j with
    | zero => simp [fitCs] at hc; subst hc; exact okP_fitC s (h 0 d rfl)
    | succ j => exact okP_fitCs ss l (fun j c hc => h (j + 1) c hc) j c (by simpa [fitCs] using hc)
theorem fitCs_sound : ∀ (ss : List SL) (l : List V) (cs : List Value) (fps : List (List Nat)), cs.length = l.length → fps.length = l.length →
    (∀ (j : Nat) x f c, cs[j]? = some x → fps[j]? = some f → l[j]? = some c → OwnL S w x f c) →
    ∃ fps' : List (List Nat), SubF fps' fps ∧ ∀ S' : Nat → Prop, (∀ b, S b → S' b) → (∀ (j : Nat) f f' b, fps[j]? = some f → fps'[j]? = some f' → b ∈ f → b ∉ f' → S' b) →
      ∀ (j : Nat) x f c, cs[j]? = some x → fps'[j]? = some f → (fitCs ss l)[j]? = some c → OwnL S' w x f c
  | [], l, cs, fps, _, _, h => ⟨fps, SubF.refl _, fun S' hS _ j x f c hx hf hc => by
      have e : fitCs [] l = l := by cases l <;> rfl
      rw [e] at hc
      exact (h j x f c hx hf hc).mono hS (fun _ _ => rfl) (fun _ _ => rfl)⟩
  | s :: ss, [], cs, fps, _, _, h => ⟨fps, SubF.refl _, fun S' hS _ j x f c hx hf hc => by simp [fitCs] at hc⟩
  | s :: ss, c :: l, [], fps, h1, _, h => by simp at h1
  | s :: ss, c :: l, x :: cs, [], _, h2, h => by simp at h2
  | s :: ss, c :: l, x :: cs, f :: fps, h1, h2, h => by
    obtain ⟨f', k1, k2⟩ := fitC_sound s (h 0 x f c rfl rfl rfl)
    obtain ⟨fps', k3, k4⟩ := fitCs_sound ss l cs fps (by simpa using h1) (by simpa using h2) (fun j x f c hx hf hc => h (j + 1) x f c hx hf hc)
    refine ⟨f' :: fps', k3.cons k1, fun S' hS hb j y g d hy hg hd => ?_⟩
    cases j with
    | zero => simp [fitCs] at hy hg hd; subst hy hg hd; exact k2 S' hS (fun b hbf hbf' => hb 0 f f' b rfl rfl hbf hbf')
    | succ j => exact k4 S' hS (fun j g g' b hg hg' => hb (j + 1) g g' b hg hg') j y g d (by simpa using hy) (by simpa using hg) (by simpa [fitCs] using hd)

theorem fit1_sound (sh : S1) {v : Value} {f : List Nat} {c : V} (h : OwnV S w v f c) (hn : f.Nodup) :
    ∃ f' : List Nat, f'.Sublist f ∧ ∀ S' : Nat → Prop, (∀ b, S b → S' b) → (∀ b, b ∈ f → b ∉ f' → S' b) → OwnV S' w v f' (fit1 sh c) := by
  have same : ∃ f' : List Nat, f'.Sublist f ∧ ∀ S' : Nat → Prop, (∀ b, S b → S' b) → (∀ b, b ∈ f → b ∉ f' → S' b) → OwnV S' w v f' c :=
    ⟨f, List.Sublist.refl _, fun S' hS _ => h.mono hS (fun _ _ => rfl) (fun _ _ => rfl)⟩
  have shar : ∃ f' : List Nat, f'.Sublist f ∧ ∀ S' : Nat → Prop, (∀ b, S b → S' b) → (∀ b, b ∈ f → b ∉ f' → S' b) → OwnV S' w v f' c.toShared :=
    ⟨[], by simp, fun S' hS hf => toShared_sound h hS (fun b hb => hf b hb (by simp))⟩
  unfold fit1
  split
  · exact shar
  · exact shar
  · rename_i ss l
    obtain ⟨cs, fps, rfl, h1, h2, h3, rfl⟩ := h
    obtain ⟨fps', k1, k2⟩ := fitCs_sound ss l cs fps h1 h2 h3
    exact ⟨fps'.flatten, k1.flatten, fun S' hS hf => ⟨cs, fps', rfl, by rw [fitCs_len]; exact h1, by rw [fitCs_len, k1.1]; exact h2,
      k2 S' hS (fun j g g' b hg hg' hb hb' => hf b (List.mem_flatten.2 ⟨g, List.mem_of_getElem? hg, hb⟩) (k1.drop hn j g g' b hg hg' hb hb')), rfl⟩⟩
  · rename_i ss l
    obtain ⟨b, cs, e, fps, rfl, h0, h1, h2, h3, rfl, h4⟩ := h
    obtain ⟨fps', k1, k2⟩ := fitCs_sound ss l cs fps h1 h2 h3
    have hn' := List.nodup_cons.1 hn
    refine ⟨b :: fps'.flatten, (k1.flatten).cons_cons b, fun S' hS hf => ⟨b, cs, e, fps', rfl, h0, by rw [fitCs_len]; exact h1, by rw [fitCs_len, k1.1]; exact h2,
      k2 S' hS (fun j g g' b' hg hg' hb hb' => ?_), rfl, okP_fitCs ss l h4⟩⟩
    have hm : b' ∈ fps.flatten := List.mem_flatten.2 ⟨g, List.mem_of_getElem? hg, hb⟩
    refine hf b' (List.mem_cons_of_mem _ hm) (fun hx => ?_)
    rcases List.mem_cons.1 hx with hx | hx
    · subst hx; exact hn'.1 hm
    · exact k1.drop hn'.2 j g g' b' hg hg' hb hb' hx
  · exact same

theorem fitL_sound : ∀ (sh : List S1) (vs : List V) (xs : List Value) (fps : List (List Nat)), OwnVs S w xs fps vs → fps.flatten.Nodup →
    ∃ fps' : List (List Nat), SubF fps' fps ∧
      ∀ S' : Nat → Prop, (∀ b, S b → S' b) → (∀ (j : Nat) f f' b, fps[j]? = some f → fps'[j]? = some f' → b ∈ f → b ∉ f' → S' b) → OwnVs S' w xs fps' (fitL sh vs)
  | [], vs, xs, fps, h, _ => ⟨fps, SubF.refl _, fun S' hS _ => by
      have e : fitL [] vs = vs := by cases vs <;> rfl
      rw [e]; exact h.mono hS⟩
  | s :: sh, [], xs, fps, h, _ => ⟨fps, SubF.refl _, fun S' hS _ => by
      have e : fitL (s :: sh) [] = [] := rfl
      rw [e]; exact h.mono hS⟩
  | s :: sh, v :: vs, [], fps, h, _ => by have := h.1; simp at this
  | s :: sh, v :: vs, x :: xs, [], h, _ => by have := h.2.1; simp at this
  | s :: sh, v :: vs, x :: xs, f :: fps, h, hn => by
    have hn2 := List.nodup_append.1 (show (f ++ fps.flatten).Nodup from hn)
    obtain ⟨f', h1, h2⟩ := fit1_sound s (h.2.2 0 x f v rfl rfl rfl) hn2.1
    obtain ⟨fps', h3, h5⟩ := fitL_sound sh vs xs fps ⟨by have := h.1; simpa using this, by have := h.2.1; simpa using this, fun j x f c hx hf hc => h.2.2 (j + 1) x f c hx hf hc⟩ hn2.2.1
    refine ⟨f' :: fps', h3.cons h1, fun S' hS hb => ?_⟩
    have ho := h2 S' hS (fun b hbf hbf' => hb 0 f f' b rfl rfl hbf hbf')
    have hr := h5 S' hS (fun j g g' b hg hg' => hb (j + 1) g g' b hg hg')
    refine ⟨by simp [fitL, hr.1], by simp [fitL, hr.2.1], fun j y g d hy hg hd => ?_⟩
    cases j with
    | zero => simp [fitL] at hy hg hd; subst hy hg hd; exact ho
    | succ j => exact hr.2.2 j y g d hy hg (by simpa [fitL] using hd)

/-- the end of a body: what the callee owes -/
theorem finish_sound {E : Env} (hE : EnvOK P E) {w0 : World} {S0 : Nat → Prop} {fp : List Nat} {A : List Value} (hF : F = ⟨fun b => b < w0.heap.size ∧ b ∉ fp, w0, S0, A⟩) (h : FR F S own T s a w) {sg : Sig} {fn : Func} {res : V} {outs : List V}
    (hk : finish E sg fn s = some (res, outs)) : ∃ v S' rfp ofps, (results fn a.tmps).run P w = .ok v w ∧ CallPost S0 S' w0 w fp v res rfp A outs ofps := by
  unfold finish at hk
  obtain ⟨xs, cs, hrun, hlen, hrt, hk⟩ := resAll_sound hE h _ hk
  obtain ⟨own1, M1, vs, fps, f1, k1, e1, e2, r1, hk⟩ := takeAll_sound (s := s) cs s.M own xs _ _ h hlen hrt hk
  obtain ⟨own2, M2, os, ofps, f2, k2, r2, hk⟩ := outsOf_sound s.roots M1 own1 _ _ f1 hk
  have hA : s.roots.map T = A := by
    have hr := h.roots
    rw [hF] at hr
    apply List.ext_getElem?
    intro i
    by_cases hi : i < s.roots.length
    · have hi2 : i < A.length := by rw [← hr.1]; exact hi
      rw [List.getElem?_map, List.getElem?_eq_getElem hi, List.getElem?_eq_getElem hi2]
      simp only [Option.map_some, Option.some.injEq]
      exact (hr.2 i _ _ (List.getElem?_eq_getElem hi) (List.getElem?_eq_getElem hi2)).1
    · rw [List.getElem?_eq_none (by simp; omega), List.getElem?_eq_none (by rw [← hr.1]; omega)]
  have K12 := k1.trans k2
  have hvs : OwnVs S w xs fps vs := ⟨by omega, by omega, r1⟩
  have nK : ∀ b, ¬ F.K b → w0.heap.size ≤ b ∨ b ∈ fp := by
    intro b hb
    rw [hF] at hb
    by_cases hlt : b < w0.heap.size
    · by_cases hm : b ∈ fp
      · exact .inr hm
      · exact absurd ⟨hlt, hm⟩ hb
    · exact .inl (by omega)
  have hres := results_run hrun
  have hall := K12.free
  have hdis := List.nodup_append.1 hall.1
  have hnod : fps.flatten.Nodup := hdis.1
  obtain ⟨ofps', ko1, ko2⟩ := fitL_sound sg.outs os _ ofps r2 hdis.2.1
  have main : ∀ (fps' : List (List Nat)) (v : Value), SubF fps' fps →
      (results fn a.tmps).run P w = .ok v w → (∀ S' : Nat → Prop, (∀ b, S b → S' b) → (∀ (j : Nat) f f' b, fps[j]? = some f → fps'[j]? = some f' → b ∈ f → b ∉ f' → S' b) → OwnT S' w v fps'.flatten res) → outs = fitL sg.outs os →
      ∃ v S' rfp ofps, (results fn a.tmps).run P w = .ok v w ∧ CallPost S0 S' w0 w fp v res rfp A outs ofps := by
    intro fps' v hsub hres hO ho
    subst ho
    have sub1 := hsub.flatten
    have sub2 := ko1.flatten
    let G : Nat → Prop := fun b => S b ∨ b ∈ fps.flatten ++ ofps.flatten ∧ b ∉ fps'.flatten ++ ofps'.flatten
    refine ⟨v, G, fps'.flatten, ofps', hres, ?_⟩
    have hw0 : F.w0 = w0 := by rw [hF]
    have hS0 : F.S0 = S0 := by rw [hF]
    have subs : ∀ b, b ∈ fps'.flatten ++ ofps'.flatten → b ∈ fps.flatten ++ ofps.flatten := fun b hb => by
      rcases List.mem_append.1 hb with hb | hb
      · exact List.mem_append.2 (.inl (sub1.subset hb))
      · exact List.mem_append.2 (.inr (sub2.subset hb))
    refine ⟨fun b hb => .inl (h.s0 b (by rw [hS0]; exact hb)), fun b hb => ?_, fun b hb => ?_, fun b hb hn => ?_, by rw [← hw0]; exact h.size, by rw [← hw0]; exact h.outside, hO G (fun b hb => .inl hb) (fun j f f' b hf hf' hb hb' => ?_), ?_, ?_, fun b hb => ?_⟩
    · rcases hb with hb | ⟨hb, _⟩
      · exact h.slt b hb
      · exact (hall.2 b hb).1
    · rcases hb with hb | ⟨hb, _⟩
      · rcases h.sk b hb with h' | h'
        · exact .inl (by rw [← hS0]; exact h')
        · exact .inr (nK b h')
      · exact .inr (nK b (hall.2 b hb).2.2.1)
    · have := (h.keep b (by rw [hF]; exact ⟨hb, hn⟩)).2
      rw [hw0] at this; exact this
    · have hm : b ∈ fps.flatten := List.mem_flatten.2 ⟨f, List.mem_of_getElem? hf, hb⟩
      refine .inr ⟨List.mem_append.2 (.inl hm), fun hx => ?_⟩
      rcases List.mem_append.1 hx with hx | hx
      · exact hsub.drop hnod j f f' b hf hf' hb hb' hx
      · exact hdis.2.2 b hm b (sub2.subset hx) rfl
    · rw [← hA]
      refine ko2 G (fun b hb => .inl hb) (fun j f f' b hf hf' hb hb' => ?_)
      have hm : b ∈ ofps.flatten := List.mem_flatten.2 ⟨f, List.mem_of_getElem? hf, hb⟩
      refine .inr ⟨List.mem_append.2 (.inr hm), fun hx => ?_⟩
      rcases List.mem_append.1 hx with hx | hx
      · exact hdis.2.2 b (sub1.subset hx) b hm rfl
      · exact ko1.drop hdis.2.1 j f f' b hf hf' hb hb' hx
    · exact (sub1.append sub2).nodup hall.1
    · obtain ⟨e1, e2, e3, _⟩ := hall.2 b (subs b hb)
      exact ⟨e1, fun hs => by rcases hs with hs | ⟨_, hs⟩; exact e2 hs; exact hs hb, nK b e3⟩
  split at hk
  · rename_i sh v hsg _
    simp only [Option.some.injEq, Prod.mk.injEq] at hk
    obtain ⟨rfl, ho⟩ := hk
    obtain ⟨x, rfl⟩ : ∃ x, xs = [x] := by
      match xs, hvs.1 with
      | [x], _ => exact ⟨x, rfl⟩
    obtain ⟨f, rfl⟩ : ∃ f, fps = [f] := by
      match fps, hvs.2.1 with
      | [f], _ => exact ⟨f, rfl⟩
    obtain ⟨f', h1, h2⟩ := fit1_sound sh (hvs.2.2 0 x f v rfl rfl rfl) (by simpa using hnod)
    refine main [f'] x ((SubF.refl []).cons h1) hres (fun S' hS hb => ?_) ho.symm
    have := h2 S' hS (fun b hb1 hb2 => hb 0 f f' b rfl rfl hb1 hb2)
    rw [ownt_eq]
    · simpa using this
    · intro l e
      rw [e] at this
      exact absurd this.1 (fun h => by cases h)
  · rename_i vs _ _ l hsg _
    split at hk
    · exact absurd hk (by simp)
    · rename_i hne
      simp only [Option.some.injEq, Prod.mk.injEq] at hk
      obtain ⟨rfl, ho⟩ := hk
      obtain ⟨fps', h1, h3⟩ := fitL_sound l vs xs fps hvs hnod
      have hv : resVal xs = .tuple xs.toArray := by
        match xs, hvs.1 with
        | [], _ => rfl
        | [x], e => exact absurd (by simpa using e.symm) hne
        | _ :: _ :: _, _ => rfl
      rw [hv] at hres
      refine main fps' _ h1 hres (fun S' hS hb => ?_) ho.symm
      have hO := h3 S' hS hb
      exact ⟨xs, fps', rfl, hO.1, hO.2.1, hO.2.2, rfl⟩
  · exact absurd hk (by simp)

theorem ibody_sound {E : Env} {cf : CallF} (hE : EnvOK P E) (hcf : CallsOK P cf) (hd : DrawOK P E cf) {N : Nat} {live : Live} {f : Nat} {fn : Func} {sg : Sig} (hfn : P.funcs[f]? = some fn) (hb : fn.body.isSome = true) {args : List V} {res : V} {outs : List V}
    (hk : ibody E cf N live sg fn args = some (res, outs)) : CallOK P f args res outs := by
  intro S w vs fps hlt ho hn hfree
  obtain ⟨c, hc⟩ := Option.isSome_iff_exists.1 hb
  have hbody : bodyOf fn = c := by simp [bodyOf, hc]
  let F : Fx := ⟨fun b => b < w.heap.size ∧ b ∉ fps.flatten, w, S, ptVals vs args⟩
  let F0 : Fx := ⟨fun b => b < w.heap.size ∧ b ∉ fps.flatten, w, S, []⟩
  have h0 : FR F0 S (fun _ => none) (fun _ => undef) { ({ tmps := [], M := [], roots := [] } : St) with M := [] } { tmps := #[], defers := [] } w :=
    ⟨rfl, fun t v c hv => by simp at hv, fun id c hc => by simp at hc, rfl, fun b id hb => by simp at hb, hlt, fun b hb => ⟨hb.1, rfl⟩, Nat.le_refl _, ⟨rfl, rfl, rfl⟩, fun b hb => hb, fun b hb => .inl hb,
      fun b hb => ⟨hlt b hb, fun hm => (hfree b hm).2 hb⟩, rfl, fun i id v hi => by simp at hi⟩
  obtain ⟨own1, T1, f1, L1, e1, r1, hr1⟩ := enterArgs_sound args [] [] [] _ _ vs fps h0 ho ⟨hn, fun b hb => ⟨(hfree b hb).1, (hfree b hb).2, fun hk => hk.2 hb, rfl⟩⟩ ⟨rfl, fun i id v hi => by simp at hi⟩
  have hF : FR F S own1 T1 (enter fn.ntmps args) { tmps := vs.toArray ++ Array.replicate (fn.ntmps - vs.toArray.size) undef, defers := [] } w := by
    refine ⟨?_, fun t v c hv hc => ?_, f1.places, rfl, f1.own, f1.slt, f1.keep, f1.size, f1.outside, f1.s0, f1.sk, f1.s0k, ?_⟩
    · simp [enter, e1, ho.1]
    · simp only [enter] at hc
      by_cases ht : t < args.length
      · rw [List.getElem?_append_left (by rw [e1]; exact ht)] at hc
        rw [Array.getElem?_append_left (by simpa [ho.1] using ht)] at hv
        exact r1 t v c (by simpa using hv) hc
      · rw [List.getElem?_append_right (by rw [e1]; omega), List.getElem?_replicate] at hc
        split at hc
        · cases hc; trivial
        · cases hc
    · have hr2 : RootsOK (enterArgs args [] []).2.1 T1 (enterArgs args [] []).2.2 (ptVals vs args) := by simpa using hr1
      exact hr2
  refine calls_of_wp (c := c) hfn hc ?_
  have hx := iexec_sound hE hcf hd N live c (kfin E sg fn) (res, outs) S own1 T1 _ _ _ hF (by rw [← hbody]; exact hk)
  refine wp_mono hx ?_
  intro e a' w' hp
  have fin : ∀ e', (e' = Ex.normal ∨ e' = Ex.ret) → HPost F (kfin E sg fn e') (res, outs) a' w' →
      a'.defers = [] ∧ ∃ v, (results fn a'.tmps).run P w' = .ok v w' ∧ ∃ v' S' rfp ofps, Ending.returned v = .returned v' ∧ CallPost S S' w w' fps.flatten v' res rfp (ptVals vs args) outs ofps := by
    rintro e' he ⟨S2, own2, T2, s2, f2, hk2⟩
    have hk2 : finish E sg fn s2 = some (res, outs) := by rcases he with rfl | rfl <;> exact hk2
    obtain ⟨v, S', rfp, ofps, hrun, hcp⟩ := finish_sound hE rfl f2 hk2
    exact ⟨f2.defers, v, hrun, v, S', rfp, ofps, rfl, hcp⟩
  cases e with
  | normal => exact fin .normal (.inl rfl) hp
  | ret => exact fin .ret (.inr rfl) hp
  | exit id => obtain ⟨_, _, _, s2, _, hk2⟩ := hp; exact absurd hk2 (by simp [kfin])
  | goto l => exact hp.elim
  | panic ch => exact hp.elim
  | outgrown => exact hp.elim
end
end Go.Proofs.Ytfkkigbbejhfbaa.Idl
