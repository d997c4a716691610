/- A call, from its entry to its return. -/
import Derived.Test.YtfkkigbbejhfbaaSound20
namespace Go.Proofs.Ytfkkigbbejhfbaa.Idl
open Go
variable {P : Program}
section
variable {F : Fx} {S S' : Nat → Prop} {own own' : Nat → Option Nat} {T T' : Nat → Value} {s : St} {a : Act} {w w' : World} {M M' : List V} {R : Type}

/-- places that hold a callee's object arguments -/
def RootsOK (M : List V) (T : Nat → Value) (roots : List Nat) (vs : List Value) : Prop := roots.length = vs.length ∧ ∀ (i : Nat) id v, roots[i]? = some id → vs[i]? = some v → T id = v ∧ id < M.length
theorem RootsOK.later (L : Later S S' w w' T T' M M') {roots : List Nat} {vs : List Value} (h : RootsOK M T roots vs) : RootsOK M' T' roots vs :=
  ⟨h.1, fun i id v hi hv => by
    obtain ⟨h1, h2⟩ := h.2 i id v hi hv
    exact ⟨by rw [L.hT id h2]; exact h1, Nat.lt_of_lt_of_le h2 L.hM⟩⟩

theorem enterArgs_sound : ∀ (args M : List V) (roots : List Nat) (rv : List Value) (own : Nat → Option Nat) (T : Nat → Value) (vs : List Value) (fps : List (List Nat)), FR F S own T { s with M := M } a w → OwnVs S w vs fps args → Free F S own w fps.flatten → RootsOK M T roots rv →
    ∃ own' T', FR F S own' T' { s with M := (enterArgs args M roots).2.1 } a w ∧ Later S S w w T T' M (enterArgs args M roots).2.1 ∧ (enterArgs args M roots).1.length = args.length ∧
      (∀ (j : Nat) x c, vs[j]? = some x → (enterArgs args M roots).1[j]? = some c → RTV S w T' (enterArgs args M roots).2.1 x c) ∧ RootsOK (enterArgs args M roots).2.1 T' (enterArgs args M roots).2.2 (rv ++ ptVals vs args)
  | [], M, roots, rv, own, T, vs, fps, h, ho, hf, hr => by
    have : vs = [] := List.eq_nil_of_length_eq_zero (by simpa using ho.1)
    subst this
    exact ⟨own, T, h, .refl, rfl, fun j x c hx => by simp at hx, by simpa [enterArgs, ptVals] using hr⟩
  | c :: args, M, roots, rv, own, T, [], fps, h, ho, hf, hr => by have := ho.1; simp at this
  | c :: args, M, roots, rv, own, T, x :: vs, [], h, ho, hf, hr => by have := ho.2.1; simp at this
  | c :: args, M, roots, rv, own, T, x :: vs, f :: fps, h, ho, hf, hr => by
    have hf : Free F S own w (f ++ fps.flatten) := hf
    obtain ⟨own1, T1, f1, k1, r1, hnt⟩ := lay_sound h (ho.2.2 0 x f c rfl rfl rfl) hf.append_left
    have ho' : OwnVs S w vs fps args := ⟨by have := ho.1; simpa using this, by have := ho.2.1; simpa using this, fun j x f c hx hf hc => ho.2.2 (j + 1) x f c hx hf hc⟩
    have hr1 : RootsOK (lay M c).1 T1 (roots ++ rootOf M c) (rv ++ ptVals [x] [c]) := by
      have hr2 := hr.later k1.later
      cases c with
      | pt l =>
        obtain ⟨hlt, b, e1, e2⟩ := (show RT S w T1 (lay M (.pt l)).1 x (.pr (layL M l).1.length 0) from r1)
        refine ⟨by simp [rootOf, ptVals, hr2.1], fun i id v hi hv => ?_⟩
        simp only [rootOf, ptVals] at hi hv
        by_cases hi2 : i < roots.length
        · rw [List.getElem?_append_left hi2] at hi
          rw [List.getElem?_append_left (by rw [← hr2.1]; exact hi2)] at hv
          exact hr2.2 i id v hi hv
        · rw [List.getElem?_append_right (by omega)] at hi
          rw [List.getElem?_append_right (by rw [← hr2.1]; omega), ← hr2.1] at hv
          have h0 : i - roots.length = 0 := by
            have := (List.getElem?_eq_some_iff.1 hi).1
            simpa using this
          rw [h0] at hi hv
          simp at hi hv
          subst hi hv
          exact ⟨by rw [e1, e2], hlt⟩
      | _ => simpa [rootOf, ptVals] using hr2
    obtain ⟨own2, T2, f2, L2, e2, r2, hr2⟩ := enterArgs_sound args (lay M c).1 (roots ++ rootOf M c) (rv ++ ptVals [x] [c]) own1 T1 vs fps f1 ho' (hf.append_right k1.hown) hr1
    refine ⟨own2, T2, f2, k1.later.trans L2, by simp [enterArgs, e2], fun j y d hy hd => ?_, ?_⟩
    · cases j with
      | zero =>
        simp [enterArgs] at hy hd
        subst hy hd
        exact .of_rta (r1.later L2) hnt
      | succ j => exact r2 j y d hy (by simpa [enterArgs] using hd)
    · have : ptVals (x :: vs) (c :: args) = ptVals [x] [c] ++ ptVals vs args := by cases c <;> simp [ptVals]
      rw [this, ← List.append_assoc]
      exact hr2

theorem sure_pointer {t : TypeId} {va v : Value} {w' : World} (h : (Instr.loadAt t va).run P w = .ok v w') : ∃ x, va = .pointer (some x) ∧ (loadVar t x).run P w = .ok v w' := by
  unfold Instr.loadAt at h
  cases va with
  | pointer p =>
    cases p with
    | some x => exact ⟨x, rfl, by simpa [Instr.sureAddr] using h⟩
    | none => simp [Instr.sureAddr, runtimePanic, stuck, Sem.run_bind] at h
  | _ => simp [Instr.sureAddr, stuck, Sem.run_bind] at h

def resF (tmps : Array Value) : ResultVar → Sem Value
  | .tmp t => pure (tmps.getD t undef)
  | .cell a t => do loadVar t (← asAddr (tmps.getD a undef))
theorem resOne_sound {E : Env} (hE : EnvOK P E) (h : FR F S own T s a w) {x : ResultVar} {K : V → Option R} {r : R} (hk : resOne E s x K = some r) :
    ∃ v c, (resF a.tmps x).run P w = .ok v w ∧ RTV S w T s.M v c ∧ K c = some r := by
  cases x with
  | tmp t => exact ⟨_, _, rfl, h.eval (.tmp t), hk⟩
  | cell d t =>
    obtain ⟨v, c, hr, hc, hk⟩ := loadV_sound hE h (h.eval (.tmp d)) hk
    obtain ⟨x, hx, hrun⟩ := sure_pointer hr
    refine ⟨v, c, ?_, hc, hk⟩
    have : a.tmps.getD d undef = .pointer (some x) := hx
    simp only [resF, this, asAddr, pure_bind]
    exact hrun
theorem resAll_sound {E : Env} (hE : EnvOK P E) (h : FR F S own T s a w) : ∀ (l : List ResultVar) {K : List V → Option R} {r : R}, resAll E s l K = some r →
    ∃ vs cs, (l.mapM (resF a.tmps)).run P w = .ok vs w ∧ vs.length = cs.length ∧ (∀ (j : Nat) x c, vs[j]? = some x → cs[j]? = some c → RTV S w T s.M x c) ∧ K cs = some r
  | [], K, r, hk => ⟨[], [], rfl, rfl, fun j x c hx => by simp at hx, hk⟩
  | x :: l, K, r, hk => by
    simp only [resAll] at hk
    obtain ⟨v, c, h1, h2, hk⟩ := resOne_sound hE h hk
    obtain ⟨vs, cs, h3, h4, h5, hk⟩ := resAll_sound hE h l hk
    refine ⟨v :: vs, c :: cs, by simp [h1, h3], by simp [h4], fun j y d hy hd => ?_, hk⟩
    cases j with
    | zero => simp at hy hd; subst hy hd; exact h2
    | succ j => exact h5 j y d hy hd
def resVal : List Value → Value
  | [v] => v
  | vs => .tuple vs.toArray
theorem results_run {fn : Func} {tmps : Array Value} {vs : List Value} (h : (fn.results.toList.mapM (resF tmps)).run P w = .ok vs w) :
    (results fn tmps).run P w = .ok (resVal vs) w := by
  have e : results fn tmps = (do let vs ← fn.results.mapM (resF tmps); pure (if h : vs.size = 1 then vs[0] else .tuple vs)) := by
    unfold results
    rfl
  rw [e, Array.mapM_eq_mapM_toList]
  simp only [bind_map_left, Sem.run_bind, h]
  match vs with
  | [] => rfl
  | [v] => rfl
  | v :: u :: vs => simp [resVal]

theorem rtv_root (h : FR F S own T { s with M := M } a w) {id : Nat} (hp : (∃ l, pl M id = .pt l) ∨ ∃ l off, pl M id = .pv l off) : RTV S w T M (T id) (.pr id 0) := by
  rcases hp with ⟨l, hp⟩ | ⟨l, off, hp⟩
  · obtain ⟨b, cs, e, h1, _⟩ := FR.place (s := { s with M := M }) h hp (by simp)
    exact ⟨pl_lt hp (by simp), b, h1, h1⟩
  · obtain ⟨_, b, h1, _⟩ := FR.place (s := { s with M := M }) h hp (by simp)
    exact ⟨pl_lt hp (by simp), b, h1, h1⟩

theorem outsOf_sound : ∀ (ids : List Nat) (M : List V) (own : Nat → Option Nat) (K : List V → Option R) (r : R), FR F S own T { s with M := M } a w → outsOf M ids K = some r →
    ∃ own' M' outs fps, FR F S own' T { s with M := M' } a w ∧ Took F S own own' w T M M' fps.flatten ∧ OwnVs S w (ids.map T) fps outs ∧ K outs = some r
  | [], M, own, K, r, h, hk => ⟨own, M, [], [], h, .nil, ⟨rfl, rfl, fun j x f c hx => by simp at hx⟩, hk⟩
  | id :: ids, M, own, K, r, h, hk => by
    simp only [outsOf] at hk
    have hroot : RTV S w T M (T id) (.pr id 0) := by
      apply rtv_root h
      unfold take at hk
      split at hk
      · rename_i j off e
        cases e
        split at hk
        · rename_i l hpl; exact .inl ⟨l, hpl⟩
        · rename_i l off' hpl; exact .inr ⟨l, off', hpl⟩
        · exact absurd hk (by simp)
      · rename_i l e; cases e
      · rename_i n1 n2; exact absurd rfl (n1 id 0)
    obtain ⟨own1, M1, c1, fp1, f1, k1, r1, hk1⟩ := take_sound h hroot hk
    obtain ⟨own2, M2, outs, fps, f2, k2, r2, hk2⟩ := outsOf_sound ids M1 own1 _ r f1 hk1
    refine ⟨own2, M2, c1 :: outs, fp1 :: fps, f2, k1.trans k2, ⟨by have := r2.1; simp at this; simp [this], by simp [r2.2.1], fun j y f d hy hf hd => ?_⟩, hk2⟩
    cases j with
    | zero => simp at hy hf hd; subst hy hf hd; exact r1
    | succ j => exact r2.2.2 j y f d hy hf hd
end
end Go.Proofs.Ytfkkigbbejhfbaa.Idl
