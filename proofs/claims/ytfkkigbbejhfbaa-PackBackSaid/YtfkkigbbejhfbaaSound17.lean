/- Calls: the caller's side. -/
import Derived.Test.YtfkkigbbejhfbaaSound16
namespace Go.Proofs.Ytfkkigbbejhfbaa.Idl
open Go
variable {P : Program}
section
variable {F : Fx} {S S' Sa Sb : Nat → Prop} {own own' : Nat → Option Nat} {T T' : Nat → Value} {s : St} {a : Act} {w w' : World} {M M' : List V} {R : Type}

/-! ### places are given up before the call -/
theorem freeze_keep : ∀ (ids : List Nat) (M : List V) (id : Nat) (ar : Arr V), pl M id = .sl false ar → pl (freezeIds M ids) id = .sl false ar
  | [], M, id, ar, h => h
  | j :: ids, M, id, ar, h => by
    simp only [freezeIds]
    apply freeze_keep ids
    split
    · rename_i o a' hp
      rw [pl_set]
      split
      · rename_i hj
        rw [← hj.1] at hp
        rw [h] at hp; cases hp; rfl
      · exact h
    · exact h
theorem freeze_pl : ∀ (ids : List Nat) (M : List V) (id : Nat) (o : Bool) (ar : Arr V), pl M id = .sl o ar → id ∈ ids → pl (freezeIds M ids) id = .sl false ar
  | [], M, id, o, ar, h, hm => by simp at hm
  | j :: ids, M, id, o, ar, h, hm => by
    simp only [freezeIds]
    by_cases hj : j = id
    · subst hj
      apply freeze_keep ids
      rw [h]
      simp only
      rw [pl_set, if_pos ⟨rfl, pl_lt h (by simp)⟩]
    · apply freeze_pl ids _ id o ar
      · split
        · rw [pl_set, if_neg (by intro e; exact hj e.1.symm)]; exact h
        · exact h
      · simp only [List.mem_cons] at hm
        rcases hm with hm | hm
        · exact absurd hm.symm hj
        · exact hm
theorem freezeIds_sound : ∀ (ids : List Nat) (M : List V) (S : Nat → Prop) (own : Nat → Option Nat), FR F S own T { s with M := M } a w →
    ∃ S' own', FR F S' own' T { s with M := freezeIds M ids } a w ∧ Sunk F S S' own own' w T M (freezeIds M ids)
  | [], M, S, own, h => ⟨S, own, h, .refl⟩
  | id :: ids, M, S, own, h => by
    simp only [freezeIds]
    split
    · rename_i o ar hpl
      have hP := FR.place (s := { s with M := M }) h hpl (by simp)
      have hlt := pl_lt hpl (by simp)
      have hsl : ∀ o' ar', V.sl false ar = .sl o' ar' → ∃ o'' a', pl M id = .sl o'' a' ∧ a'.esz = ar'.esz ∧ a'.len = ar'.len := by
        intro o' ar' e
        cases e
        exact ⟨o, ar, hpl, rfl, rfl⟩
      have hrep : RepL (plus S True own id) w (T id) (.sl false ar) := by
        cases o with
        | false => exact RepL.mono (fun b hb => .inl hb) (fun _ _ => rfl) hP
        | true => exact (hP.1.mono (S' := plus S True own id) (fun b hb => .inl hb) (fun _ _ => rfl) (fun _ _ => rfl)).share (fun b hb => .inr ⟨trivial, hP.2 b hb⟩)
      obtain ⟨S2, own2, f2, k2⟩ := freezeIds_sound ids (M.set id (.sl false ar)) _ _ (FR.drop (s := { s with M := M }) h id True (.sl false ar) hlt hsl hrep)
      exact ⟨S2, own2, f2, (FR.drop_sunk (s := { s with M := M }) h id True _ hsl (by simp)).trans k2⟩
    · exact freezeIds_sound ids M S own h
theorem Free.sunk {fp : List Nat} (k : Sunk F S S' own own' w T M M') (h : Free F S own w fp) : Free F S' own' w fp := ⟨h.1, fun b hb => by
  obtain ⟨h1, h2, h3, h4⟩ := h.2 b hb
  refine ⟨h1, fun hs => ?_, h3, ?_⟩
  · rcases k.new b hs with h' | ⟨id, h'⟩
    · exact h2 h'
    · rw [h4] at h'; cases h'
  · cases e : own' b with
    | none => rfl
    | some id => have := k.hown b id e; rw [h4] at this; cases this⟩

/-! ### the way through a call -/
theorem FR.called (h : FR F S own T { s with M := M } a w) {S3 : Nat → Prop} {fp rfp : List Nat} {ofps : List (List Nat)} {v : Value} {res : V} {ovs : List Value} {outs : List V} (hc : CallPost Sa Sb w w' fp v res rfp ovs outs ofps)
    (hfree : Free F S own w fp) (h13 : ∀ b, S b → S3 b) (h32 : ∀ b, S3 b → Sb b) (hs3 : ∀ b, S3 b → S b ∨ w.heap.size ≤ b ∨ b ∈ fp) :
    FR F S3 own T { s with M := M } a w' ∧ Free F S3 own w' (ofps.flatten ++ rfp) ∧ Later S S3 w w' T T M M := by
  have hsame : ∀ b, b < w.heap.size → (S b ∨ F.K b ∨ ∃ id, own b = some id) → w'.heap[b]? = w.heap[b]? := by
    intro b hb hx
    refine hc.keep b hb (fun hm => ?_)
    obtain ⟨_, h2, h3, h4⟩ := hfree.2 b hm
    rcases hx with hx | hx | ⟨id, hx⟩
    · exact h2 hx
    · exact h3 hx
    · rw [h4] at hx; cases hx
  have hK : ∀ b, F.K b → b < w.heap.size := fun b hb => Nat.lt_of_lt_of_le (h.keep b hb).1 h.size
  have L : Later S S3 w w' T T M M := ⟨h13, fun b hb => hsame b (h.slt b hb) (.inl hb), fun _ _ => rfl, Nat.le_refl _, fun _ o a _ h => ⟨o, a, h, rfl, rfl⟩⟩
  have nK : ∀ b, w.heap.size ≤ b ∨ b ∈ fp → ¬ F.K b := by
    rintro b (hb | hb) hk
    · have := hK b hk; omega
    · exact (hfree.2 b hb).2.2.1 hk
  have nown : ∀ b, w.heap.size ≤ b ∨ b ∈ fp → own b = none := by
    rintro b (hb | hb)
    · cases e : own b with
      | none => rfl
      | some id => have := (h.own b id e).1; omega
    · exact (hfree.2 b hb).2.2.2
  refine ⟨FR.change (s := { s with M := M }) h L (fun id c hc' => ?_) (fun b id hb => ?_) (fun b hb => hc.slt b (h32 b hb)) (fun b hb => hsame b (hK b hb) (.inr (.inl hb))) hc.size hc.out (fun b hb => ?_), ⟨?_, fun b hb => ?_⟩, L⟩
  · exact (h.places id c hc').later L (List.getElem?_eq_some_iff.1 hc').1 (fun b hb => ⟨hb, hsame b (h.own b id hb).1 (.inr (.inr ⟨id, hb⟩))⟩)
  · obtain ⟨h1, h2, h3, h4⟩ := h.own b id hb
    refine ⟨Nat.lt_of_lt_of_le h1 hc.size, fun hs => ?_, h3, h4⟩
    rcases hs3 b hs with h' | h'
    · exact h2 h'
    · rw [nown b h'] at hb; cases hb
  · rcases hs3 b hb with h' | h'
    · exact .inl h'
    · exact .inr (nK b h')
  · have := hc.nodup
    rw [List.nodup_append] at this ⊢
    exact ⟨this.2.1, this.1, fun x hx y hy e => this.2.2 y hy x hx e.symm⟩
  · obtain ⟨h1, h2, h3⟩ := hc.free b (by rw [List.mem_append] at hb ⊢; exact hb.symm)
    exact ⟨h1, fun hs => h2 (h32 b hs), nK b h3, nown b h3⟩

theorem call_core (h : FR F S own T { s with M := M } a w) {g : Nat} {args : List V} {res : V} {outs : List V} (hg : CallOK P g args res outs) (_hSa : ∀ b, S b → Sa b) (hSa' : ∀ b, Sa b → S b ∨ own b ≠ none)
    {vs : List Value} {fps : List (List Nat)} (ho : OwnVs Sa w vs fps args) (hf : Free F S own w fps.flatten) :
    Calls P g vs.toArray w fun e w' => ∃ v Sb rfp ofps, e = .returned v ∧ CallPost Sa Sb w w' fps.flatten v res rfp (ptVals vs args) outs ofps := by
  refine (hg Sa w vs fps (fun b hb => ?_) ho hf.1 (fun b hb => ?_)).mono ?_
  · rcases hSa' b hb with h' | h'
    · exact h.slt b h'
    · cases e : own b with
      | none => exact absurd e h'
      | some id => exact (h.own b id e).1
  · obtain ⟨h1, h2, _, h4⟩ := hf.2 b hb
    refine ⟨h1, fun hs => ?_⟩
    rcases hSa' b hs with h' | h'
    · exact h2 h'
    · exact h' h4
  · rintro e w' ⟨v, Sb, rfp, ofps, h1, h2⟩
    exact ⟨v, Sb, rfp, ofps, h1, h2⟩

/-! ### shapes of results -/
def Gr (c : V) : Prop := ∀ (S S' : Nat → Prop) (w w' : World) (v : Value) (fp : List Nat), OwnT S w v fp c → OwnT S' w' v fp c
def GrL (c : V) : Prop := (∀ (S S' : Nat → Prop) (w w' : World) (v : Value) (fp : List Nat), OwnL S w v fp c → OwnL S' w' v fp c) ∧ (∀ M, lay1 M c = (M, c)) ∧ (∀ l, c ≠ .agg l) ∧ (∀ l, c ≠ .pt l) ∧ (∀ l, c ≠ .tup l)
def GrA (c : V) : Prop := (∀ (S S' : Nat → Prop) (w w' : World) (v : Value) (fp : List Nat), OwnV S w v fp c → OwnV S' w' v fp c) ∧ (∀ M, lay M c = (M, c)) ∧ (∀ l, c ≠ .tup l)

theorem grl_int (k : IntKind) (n : Int) : GrL (.int k n) := ⟨fun S S' w w' v fp h => by obtain ⟨h1, h2⟩ := h; cases h1; exact ⟨.int k n, h2⟩, fun _ => rfl, by simp, by simp, by simp⟩
theorem grl_bool (b : Bool) : GrL (.bool b) := ⟨fun S S' w w' v fp h => by obtain ⟨h1, h2⟩ := h; cases h1; exact ⟨.bool b, h2⟩, fun _ => rfl, by simp, by simp, by simp⟩
theorem grl_str (b : ByteArray) : GrL (.str b) := ⟨fun S S' w w' v fp h => by obtain ⟨h1, h2⟩ := h; cases h1; exact ⟨.str b, h2⟩, fun _ => rfl, by simp, by simp, by simp⟩

theorem SL.chk_ground {l : SL} {v : V} {K : V → Option R} {r : R} (h : l.chk v K = some r) (hg : l.ground = true) : GrL v := by
  cases l with
  | any => simp [SL.ground] at hg
  | int k => obtain ⟨n, rfl, _⟩ := asInt_eq h; exact grl_int _ _
  | bool => obtain ⟨n, rfl, _⟩ := asBool_eq h; exact grl_bool _
  | str => obtain ⟨n, rfl, _⟩ := asStr_eq h; exact grl_str _
  | sl o e => simp [SL.ground] at hg
theorem chkL_ground : ∀ {l : List SL} {vs : List V} {K : List V → Option R} {r : R}, chkL l vs K = some r → l.all SL.ground = true → ∀ v, v ∈ vs → GrL v
  | [], [], _, _, _, _ => by simp
  | [], _ :: _, _, _, h, _ => by simp [chkL, seeCons, seeNil] at h
  | _ :: _, [], _, _, h, _ => by simp [chkL, seeCons, seeNil] at h
  | l :: ls, v :: vs, K, r, h, hg => by
    simp only [chkL, seeCons, seeNil] at h
    simp only [List.all_cons, Bool.and_eq_true] at hg
    intro u hu
    rcases List.mem_cons.1 hu with rfl | hu
    · exact SL.chk_ground h hg.1
    · exact chkL_ground (l := ls) (K := fun vs' => K (v :: vs')) (SL.chk_eq h) hg.2 u hu
theorem GrL.toA {c : V} (h : GrL c) : GrA c := by
  obtain ⟨h1, h2, h3, h4, h5⟩ := h
  refine ⟨fun S S' w w' v fp ho => ?_, fun M => ?_, h5⟩
  · rw [ownv_eq h4 h3] at ho ⊢
    exact h1 S S' w w' v fp ho
  · have e : lay M c = lay1 M c := by
      cases c with
      | agg l => exact absurd rfl (h3 l)
      | pt l => exact absurd rfl (h4 l)
      | _ => rfl
    rw [e, h2]
theorem layL_id : ∀ (l : List V) (M : List V), (∀ c, c ∈ l → lay1 M c = (M, c)) → layL M l = (M, l)
  | [], M, _ => rfl
  | c :: l, M, h => by
    have h1 := h c (by simp)
    have h2 := layL_id l M (fun c hc => h c (by simp [hc]))
    simp [layL, h1, h2]
theorem layAll_id : ∀ (l : List V) (M : List V), (∀ c, c ∈ l → lay M c = (M, c)) → layAll M l = (M, l)
  | [], M, _ => rfl
  | c :: l, M, h => by
    have h1 := h c (by simp)
    have h2 := layAll_id l M (fun c hc => h c (by simp [hc]))
    simp [layAll, h1, h2]
theorem S1.chk_ground {l : S1} {v : V} {K : V → Option R} {r : R} (h : l.chk v K = some r) (hg : l.ground = true) : GrA v := by
  cases l with
  | leaf s => exact (SL.chk_ground h hg).toA
  | agg l =>
    simp only [S1.chk, V.asAgg] at h
    split at h
    · rename_i vs
      have hall := chkL_ground h hg
      refine ⟨fun S S' w w' v fp ho => ?_, fun M => ?_, by simp⟩
      · obtain ⟨cs, fps, h1, h2, h3, h4, h5⟩ := ho
        exact ⟨cs, fps, h1, h2, h3, fun j x f c hx hf hc => (hall c (List.mem_of_getElem? hc)).1 S S' w w' x f (h4 j x f c hx hf hc), h5⟩
      · simp [lay, layL_id vs M (fun c hc => (hall c hc).2.1 M)]
    · exact absurd h (by simp)
  | pt l => simp [S1.ground] at hg
  | pv l => simp [S1.ground] at hg
theorem chkL1_ground : ∀ {l : List S1} {vs : List V} {K : List V → Option R} {r : R}, chkL1 l vs K = some r → l.all S1.ground = true → ∀ v, v ∈ vs → GrA v
  | [], [], _, _, _, _ => by simp
  | [], _ :: _, _, _, h, _ => by simp [chkL1, seeCons, seeNil] at h
  | _ :: _, [], _, _, h, _ => by simp [chkL1, seeCons, seeNil] at h
  | l :: ls, v :: vs, K, r, h, hg => by
    simp only [chkL1, seeCons, seeNil] at h
    simp only [List.all_cons, Bool.and_eq_true] at hg
    intro u hu
    rcases List.mem_cons.1 hu with rfl | hu
    · exact S1.chk_ground h hg.1
    · exact chkL1_ground (l := ls) (K := fun vs' => K (v :: vs')) (S1.chk_eq h) hg.2 u hu
theorem Sh.chk_ground {l : Sh} {v : V} {K : V → Option R} {r : R} (h : l.chk v K = some r) (hg : l.ground = true) : Gr v := by
  cases l with
  | one s =>
    obtain ⟨h1, _, h3⟩ := S1.chk_ground h hg
    intro S S' w w' x fp ho
    rw [ownt_eq h3] at ho ⊢
    exact h1 S S' w w' x fp ho
  | tup l =>
    simp only [Sh.chk, V.asTup] at h
    split at h
    · rename_i vs
      have hall := chkL1_ground h hg
      intro S S' w w' v fp ho
      obtain ⟨cs, fps, h1, h2, h3, h4, h5⟩ := ho
      exact ⟨cs, fps, h1, h2, h3, fun j x f c hx hf hc => (hall c (List.mem_of_getElem? hc)).1 S S' w w' x f (h4 j x f c hx hf hc), h5⟩
    · exact absurd h (by simp)

theorem SL.chk_shared {l : SL} {v : V} {K : V → Option R} {r : R} (h : l.chk v K = some r) (hg : l.shared = true) : (∀ M, lay1 M v = (M, v)) ∧ (∀ M, lay M v = (M, v)) := by
  cases l with
  | any => simp [SL.shared] at hg
  | int k => obtain ⟨n, rfl, _⟩ := asInt_eq h; exact ⟨fun _ => rfl, fun _ => rfl⟩
  | bool => obtain ⟨n, rfl, _⟩ := asBool_eq h; exact ⟨fun _ => rfl, fun _ => rfl⟩
  | str => obtain ⟨n, rfl, _⟩ := asStr_eq h; exact ⟨fun _ => rfl, fun _ => rfl⟩
  | sl o e =>
    obtain ⟨n, rfl, _⟩ := asSl_eq h
    cases o with
    | true => simp [SL.shared] at hg
    | false => exact ⟨fun _ => rfl, fun _ => rfl⟩
theorem chkL_shared : ∀ {l : List SL} {vs : List V} {K : List V → Option R} {r : R}, chkL l vs K = some r → l.all SL.shared = true → ∀ v, v ∈ vs → ∀ M, lay1 M v = (M, v)
  | [], [], _, _, _, _ => by simp
  | [], _ :: _, _, _, h, _ => by simp [chkL, seeCons, seeNil] at h
  | _ :: _, [], _, _, h, _ => by simp [chkL, seeCons, seeNil] at h
  | l :: ls, v :: vs, K, r, h, hg => by
    simp only [chkL, seeCons, seeNil] at h
    simp only [List.all_cons, Bool.and_eq_true] at hg
    intro u hu
    rcases List.mem_cons.1 hu with rfl | hu
    · exact (SL.chk_shared h hg.1).1
    · exact chkL_shared (l := ls) (K := fun vs' => K (v :: vs')) (SL.chk_eq h) hg.2 u hu
theorem S1.chk_shared {l : S1} {v : V} {K : V → Option R} {r : R} (h : l.chk v K = some r) (hg : l.shared = true) : (∀ l, v ≠ .tup l) ∧ ∀ M, lay M v = (M, v) := by
  cases l with
  | leaf s =>
    have h1 := SL.chk_shared h hg
    refine ⟨fun l e => ?_, h1.2⟩
    subst e
    cases s with
    | any => simp [S1.shared, SL.shared] at hg
    | _ => simp [S1.chk, SL.chk, V.asInt, V.asBool, V.asStr, V.asSl] at h
  | agg l =>
    simp only [S1.chk, V.asAgg] at h
    split at h
    · rename_i vs
      exact ⟨by simp, fun M => by simp [lay, layL_id vs M (fun c hc => chkL_shared h hg c hc M)]⟩
    · exact absurd h (by simp)
  | pt l => simp [S1.shared] at hg
  | pv l =>
    simp only [S1.chk, V.asPv] at h
    split at h
    · exact ⟨by simp, fun M => rfl⟩
    · exact absurd h (by simp)
theorem chkL1_shared : ∀ {l : List S1} {vs : List V} {K : List V → Option R} {r : R}, chkL1 l vs K = some r → l.all S1.shared = true → ∀ v, v ∈ vs → ∀ M, lay M v = (M, v)
  | [], [], _, _, _, _ => by simp
  | [], _ :: _, _, _, h, _ => by simp [chkL1, seeCons, seeNil] at h
  | _ :: _, [], _, _, h, _ => by simp [chkL1, seeCons, seeNil] at h
  | l :: ls, v :: vs, K, r, h, hg => by
    simp only [chkL1, seeCons, seeNil] at h
    simp only [List.all_cons, Bool.and_eq_true] at hg
    intro u hu
    rcases List.mem_cons.1 hu with rfl | hu
    · exact (S1.chk_shared h hg.1).2
    · exact chkL1_shared (l := ls) (K := fun vs' => K (v :: vs')) (S1.chk_eq h) hg.2 u hu
theorem Sh.chk_shared {l : Sh} {v : V} {K : V → Option R} {r : R} (h : l.chk v K = some r) (hg : l.shared = true) : ∀ M, layRes M v = (M, v) := by
  cases l with
  | one s =>
    obtain ⟨h1, h2⟩ := S1.chk_shared h hg
    intro M
    have e : layRes M v = lay M v := by
      cases v with
      | tup l => exact absurd rfl (h1 l)
      | _ => rfl
    rw [e, h2]
  | tup l =>
    simp only [Sh.chk, V.asTup] at h
    split at h
    · rename_i vs
      intro M
      simp [layRes, layAll_id vs M (fun c hc => chkL1_shared h hg c hc M)]
    · exact absurd h (by simp)
end
end Go.Proofs.Ytfkkigbbejhfbaa.Idl
