/- The table of calls: each function is what its body computes, or what was proved of it by hand. -/
import Derived.Test.YtfkkigbbejhfbaaSndB
namespace Go.Proofs.Ytfkkigbbejhfbaa.Idl
open Go
variable {P : Program}

abbrev Hand := Nat → Option (List V → Option (V × List V))
noncomputable def callStep (E : Env) (live : Nat → Live) (hand : Hand) (k : Nat) (cf : CallF) : CallF := fun f args =>
  match hand f with
  | some h => h args
  | none => (match E.sig f, E.fn f with
    | some sg, some fn => ibody (E.on sg) cf k (live f) sg fn args
    | _, _ => none)
noncomputable def callT (E : Env) (live : Nat → Live) (hand : Hand) (k : Nat) : CallF :=
  Nat.rec (motive := fun _ => CallF) (fun _ _ => none) (fun k cf => callStep E live hand k cf) k
theorem SeqOK.on {E : Env} (h : SeqOK P E) (sg : Sig) : SeqOK P (E.on sg) := h
theorem EnvOK.on {E : Env} (h : EnvOK P E) (sg : Sig) : EnvOK P (E.on sg) := ⟨h.ty, h.fn, h.inp⟩
theorem callT_succ (E : Env) (live : Nat → Live) (hand : Hand) (k : Nat) : callT E live hand (k + 1) = callStep E live hand k (callT E live hand k) := rfl

theorem callT_ok {E : Env} {live : Nat → Live} {hand : Hand} (hm : P.follows .mixedOrders = true) (hE : EnvOK P E) (hq : SeqOK P E)
    (hh : ∀ f h args res outs, hand f = some h → h args = some (res, outs) → CallOK P f args res outs) : ∀ k, CallsOK P (callT E live hand k)
  | 0 => fun f args res outs h => by cases h
  | k + 1 => fun f args res outs h => by
    have ih := callT_ok (live := live) hm hE hq hh k
    rw [callT_succ] at h
    unfold callStep at h
    split at h
    · rename_i g hg
      exact hh f g args res outs hg h
    · split at h
      · rename_i sg fn _ hfn
        obtain ⟨h1, _, h3⟩ := hE.fn f fn hfn
        exact ibody_sound (hE.on sg) ih (draw_ok hm (hE.on sg) ih) (hq.on sg) h1 h3 h
      · cases h

/-- what a law's row asks of a call: it ends, it changes nothing that was there -/
theorem callT_call {E : Env} {cf : CallF} {f : Nat} {args : List V} {res : V} (hc : CallsOK P cf) (h : cf f args = some (res, [])) {w : World} {vs : List Value} (hl : vs.length = args.length)
    (hv : ∀ (j : Nat) x c, vs[j]? = some x → args[j]? = some c → OwnV (fun b => b < w.heap.size) w x [] c) :
    Calls P f vs.toArray w fun e w' => ∃ v rfp S', e = .returned v ∧ OwnT S' w' v rfp res ∧ (∀ b, b < w.heap.size → w'.heap[b]? = w.heap[b]?) ∧ w.heap.size ≤ w'.heap.size ∧ w'.os = w.os ∧ w'.tape = w.tape ∧ w'.output = w.output := by
  refine (hc f args res [] h (fun b => b < w.heap.size) w vs (List.replicate args.length []) (fun b hb => hb) ⟨hl, by simp, fun j x f c hx hf hc => ?_⟩ ?_ ?_).mono ?_
  · have hfe : f = [] := by
      rw [List.getElem?_replicate] at hf
      split at hf
      · exact (Option.some.inj hf).symm
      · cases hf
    subst hfe
    exact hv j x c hx hc
  · rw [flatten_nils]; simp
  · intro b hb; rw [flatten_nils] at hb; simp at hb
  · rintro e w' ⟨v, S', rfp, ofps, rfl, hp⟩
    refine ⟨v, rfp, S', rfl, hp.res, fun b hb => hp.keep b hb ?_, hp.size, hp.out⟩
    rw [flatten_nils]; simp
end Go.Proofs.Ytfkkigbbejhfbaa.Idl
