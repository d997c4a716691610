/- Calls of Go functions, as operations. -/
import Derived.Test.YtfkkigbbejhfbaaSound17
namespace Go.Proofs.Ytfkkigbbejhfbaa.Idl
open Go
variable {P : Program}
section
variable {F : Fx} {S S' Sa Sb : Nat → Prop} {own own' : Nat → Option Nat} {T T' : Nat → Value} {s : St} {a : Act} {w w' : World} {M M' : List V} {R : Type}

theorem run_enter {f : FuncId} {fn : Func} (hf : P.funcs[f]? = some fn) (hname : (fn.name == "runtime.NumGoroutine") = false) (hb : fn.body.isSome = true) (args : Array Value) (w : World) :
    (callFunc f args).run P w = .ok (.enter f args) w := by
  have h1 : fn.name ≠ "runtime.NumGoroutine" := by simpa using hname
  obtain ⟨c, hc⟩ := Option.isSome_iff_exists.1 hb
  simp [callFunc, hf, h1, hc]

theorem call_run {E : Env} (hE : EnvOK P E) {o : Oper} {c : Call} {f : Operand} {g : Nat} {fn : Func} (ho : o.op = .call c) (hcal : c.callee = .value f) (hfn : E.fn g = some fn) {xs : List Value}
    (hv : a.eval f = .func (.func g) #[] xs.toArray) {K : Act → World → Prop} {Q : Exit → Act → World → Prop}
    (hC : Calls P g (c.args.toList.map a.eval ++ xs).toArray w fun e w' => ∃ v, e = .returned v ∧ K (a.put o.dst v) w') : o.wp P a w K Q := by
  obtain ⟨h1, h2, h3⟩ := hE.fn g fn hfn
  have hrun : (execOp a.eval o).run P w = .ok (.enter g (c.args.toList.map a.eval ++ xs).toArray) w := by
    have e : (execOp a.eval o) = (do let d ← resolve a.eval c o.type; invoke d.target d.args) := by
      unfold execOp
      rw [ho]
    have hargs : c.args.map a.eval ++ xs.toArray = (c.args.toList.map a.eval ++ xs).toArray := by
      apply Array.ext'
      simp
    have e2 : (do let d ← resolve a.eval c o.type; invoke d.target d.args : Sem Next) = callFunc g (#[] ++ c.args.map a.eval ++ xs.toArray) := by
      simp only [resolve, hcal, hv, Deferred.ofValue, pure_bind, invoke]
    rw [e, e2, show (#[] ++ Array.map a.eval c.args ++ xs.toArray) = (c.args.toList.map a.eval ++ xs).toArray from by rw [Array.empty_append]; exact hargs]
    exact run_enter h1 h2 h3 _ _
  unfold Oper.wp
  rw [hrun]
  refine Calls.mono hC ?_
  rintro e w' ⟨v, rfl, hk⟩
  exact hk

theorem fn_rep {v : Value} {g : Nat} {cap : List V} (h : RTV S w T M v (.fn g cap)) : ∃ xs : List Value, v = .func (.func g) #[] xs.toArray ∧ xs.length = cap.length ∧ ∀ (j : Nat) x c, xs[j]? = some x → cap[j]? = some c → RepL S w x c := by
  have h : RepL S w v (.fn g cap) := h
  cases h with
  | fn f cap xs hl hr => exact ⟨xs, rfl, hl, hr⟩

theorem caps_own {xs : List Value} {cap : List V} (hl : xs.length = cap.length) (hr : ∀ (j : Nat) x c, xs[j]? = some x → cap[j]? = some c → RepL S w x c) (hp : cap.all V.plain1 = true) :
    OwnVs S w xs (List.replicate cap.length []) cap := by
  refine ⟨hl, by simp, fun j x f c hx hf hc => ?_⟩
  have hfe : f = [] := by
    rw [List.getElem?_replicate] at hf
    split at hf
    · exact (Option.some.inj hf).symm
    · cases hf
  subst hfe
  have h1 := hr j x c hx hc
  have h2 := List.all_eq_true.1 hp c (List.mem_of_getElem? hc)
  cases c with
  | agg l => simp [V.plain1] at h2
  | pt l => simp [V.plain1] at h2
  | sl o ar => cases o with
    | true => simp [V.plain1] at h2
    | false => exact ⟨h1, rfl⟩
  | _ => exact ⟨h1, rfl⟩
theorem OwnVs.append {vs xs : List Value} {f1 f2 : List (List Nat)} {l cap : List V} (h1 : OwnVs S w vs f1 l) (h2 : OwnVs S w xs f2 cap) : OwnVs S w (vs ++ xs) (f1 ++ f2) (l ++ cap) := by
  refine ⟨by simp [h1.1, h2.1], by simp [h1.2.1, h2.2.1], fun j x f c hx hf hc => ?_⟩
  by_cases hj : j < l.length
  · rw [List.getElem?_append_left (by rw [h1.1]; exact hj)] at hx
    rw [List.getElem?_append_left (by rw [h1.2.1]; exact hj)] at hf
    rw [List.getElem?_append_left hj] at hc
    exact h1.2.2 j x f c hx hf hc
  · rw [List.getElem?_append_right (by rw [h1.1]; omega), h1.1] at hx
    rw [List.getElem?_append_right (by rw [h1.2.1]; omega), h1.2.1] at hf
    rw [List.getElem?_append_right (by omega)] at hc
    exact h2.2.2 _ x f c hx hf hc
theorem ptVals_cap : ∀ (xs : List Value) (cap : List V), cap.all V.plain1 = true → ptVals xs cap = []
  | [], _, _ => rfl
  | _ :: _, [], _ => by simp [ptVals]
  | x :: xs, c :: cap, h => by
    simp only [List.all_cons, Bool.and_eq_true] at h
    cases c <;> simp [ptVals, ptVals_cap xs cap h.2]
    simp [V.plain1] at h
theorem ptVals_append : ∀ (vs xs : List Value) (l cap : List V), vs.length = l.length → cap.all V.plain1 = true → ptVals (vs ++ xs) (l ++ cap) = ptVals vs l
  | [], xs, [], cap, _, h => by
    rw [List.nil_append, List.nil_append, ptVals_cap xs cap h]
    rfl
  | [], xs, _ :: _, cap, hl, _ => by simp at hl
  | _ :: _, xs, [], cap, hl, _ => by simp at hl
  | v :: vs, xs, c :: l, cap, hl, h => by
    have ih := ptVals_append vs xs l cap (by simpa using hl) h
    cases c <;> simp [ptVals, ih]
theorem flatten_nils : ∀ (n : Nat), (List.replicate n ([] : List Nat)).flatten = []
  | 0 => rfl
  | n + 1 => by simp

/-- the end of a call -/
theorem ret_sound (h : FR F S own T { s with M := M } a w) {ids : List Nat} {outs : List V} {ofps : List (List Nat)} {rfp : List Nat} {v : Value} {res : V} (hids : ∀ id, id ∈ ids → id < M.length) (ho : OwnVs S w (ids.map T) ofps outs)
    (hr : OwnT S w v rfp res) (hf : Free F S own w (ofps.flatten ++ rfp)) {K : St → Option R} {r : R} (d : Option Tmp) (hk : (backAll M ids outs fun M => K ({ s with M := (layRes M res).1 }.put d (layRes M res).2)) = some r) :
    HPost F K r (a.put d v) w := by
  obtain ⟨own1, T1, M1, f1, hf1, hk1⟩ := backAll_sound ids outs M own T ofps rfp _ r h hids ho hf hk
  obtain ⟨own2, T2, f2, hrt⟩ := layRes_sound f1 hr hf1
  exact ⟨S, own2, T2, _, f2.put' d hrt, hk1⟩

theorem OwnVs.mono {vs : List Value} {fps : List (List Nat)} {l : List V} (hS : ∀ b, S b → S' b) (h : OwnVs S w vs fps l) : OwnVs S' w vs fps l :=
  ⟨h.1, h.2.1, fun j x f c hx hf hc => (h.2.2 j x f c hx hf hc).mono hS (fun _ _ => rfl) (fun _ _ => rfl)⟩

theorem zip_get {α β : Type} {l : List α} {m : List β} {j : Nat} {p : α × β} (h : (l.zip m)[j]? = some p) : l[j]? = some p.1 := by
  rw [List.getElem?_zip_eq_some] at h
  exact h.1

theorem lent_alive {l : List V} {c : V} {id : Nat} (hc : c ∈ l) (h : id ∈ lend1Ids c) : id ∈ lentIds l := by
  rw [lentIds_eq]
  exact List.mem_flatMap.2 ⟨c, hc, h⟩

theorem iopH_call {E : Env} {cf : CallF} (hE : EnvOK P E) (hcf : CallsOK P cf) (hF : FR F S own T s a w) (o : Oper) {c : Call} {f : Operand} (ho : o.op = .call c) (hcal : c.callee = .value f) {K : St → Option R} {r : R} {Q : Exit → Act → World → Prop}
    (h : iopH E cf s o K = some r) : o.wp P a w (HPost F K r) Q := by
  obtain ⟨dst, op, ty, pos, after, guard⟩ := o
  simp only at ho
  subst ho
  simp only [iopH_eq, iopP, hcal] at h
  unfold fnOf at h
  split at h
  · rename_i g cap hev
    simp only at h
    split at h
    · rename_i sg fn hsg hfn
      have hfv := hF.eval f
      rw [hev] at hfv
      obtain ⟨xs, hv, hxl, hxr⟩ := fn_rep hfv
      have hrt : ∀ (j : Nat) x p, ((c.args.toList.map a.eval).take (sg.tys fn).length)[j]? = some x → ((c.args.toList.map s.eval).zip (sg.tys fn))[j]? = some p → RTV S w T s.M x p.1 := by
        intro j x p hx hp
        have hp1 := zip_get hp
        rw [List.getElem?_take] at hx
        rw [if_pos (by
          rcases Nat.lt_or_ge j (sg.tys fn).length with hlt | hge
          · exact hlt
          · rw [if_neg (by omega)] at hx; cases hx)] at hx
        rw [List.getElem?_map, Option.map_eq_some_iff] at hx hp1
        obtain ⟨y, hy, rfl⟩ := hx
        obtain ⟨z, hz, he⟩ := hp1
        rw [hy] at hz; cases hz
        rw [← he]
        exact hF.eval y
      have hlen0 : ((c.args.toList.map a.eval).take (sg.tys fn).length).length = ((c.args.toList.map s.eval).zip (sg.tys fn)).length := by simp; omega
      obtain ⟨own1, M1, as, ids, fps, f1, k1, e1, e2, hargs, hpt, hids, hk⟩ := handAll_sound (s := s) hE ((c.args.toList.map s.eval).zip (sg.tys fn)) s.M own ((c.args.toList.map a.eval).take (sg.tys fn).length) _ r hF hlen0 hrt h
      split at hk
      · rename_i hchk
        obtain ⟨hsz, hal, hcp⟩ := hchk
        have htake : (c.args.toList.map a.eval).take (sg.tys fn).length = c.args.toList.map a.eval := List.take_of_length_le (by simp only [Sig.tys, tysOf_length]; simpa using hsz)
        rw [htake] at hargs hpt hlen0
        have hlen := hlen0
        split at hk
        · rename_i p hp
          have hal' : ∀ id, id ∈ lentIds (c.args.toList.map s.eval) → ∃ o' ar, pl M1 id = .sl o' ar := by
            intro id hid
            have := List.all_eq_true.1 hal id hid
            split at this
            · rename_i o' ar he; exact ⟨o', ar, he⟩
            · simp at this
          have hk1 := hk
          have hk := chkL1_eq (Sh.chk_eq hk)
          -- what is handed over, whatever counts as shared then
          have args_own : ∀ Sx : Nat → Prop, (∀ b, S b → Sx b) → (∀ id ar, id ∈ lentIds (c.args.toList.map s.eval) → pl M1 id = .sl true ar → RepL Sx w (T id) (.sl false ar)) →
              OwnVs Sx w (c.args.toList.map a.eval ++ xs) (fps ++ List.replicate cap.length []) (as ++ cap) := by
            intro Sx hSx hR
            refine OwnVs.append ⟨by rw [e1]; exact hlen, by rw [e1, e2], fun j x fp d hx hf hd => ?_⟩ (caps_own hxl (fun j x c hx hc => (hxr j x c hx hc).mono hSx (fun _ _ => rfl)) hcp)
            have hj : j < ((c.args.toList.map s.eval).zip (sg.tys fn)).length := by rw [← e1]; exact (List.getElem?_eq_some_iff.1 hd).1
            obtain ⟨p0, hp0⟩ : ∃ p0, ((c.args.toList.map s.eval).zip (sg.tys fn))[j]? = some p0 := ⟨_, List.getElem?_eq_getElem hj⟩
            have hmem : p0.1 ∈ c.args.toList.map s.eval := List.mem_of_getElem? (zip_get hp0)
            rcases hargs j x fp p0 d hx hf hp0 hd with ⟨q, rfl, hOw⟩ | ⟨rfl, hnp, M2, hla, hkeep⟩
            · exact hOw.mono hSx (fun _ _ => rfl) (fun _ _ => rfl)
            · refine hla.final hSx hnp (fun id ar hid hpl => ?_)
              have hin := lent_alive hmem hid
              obtain ⟨o', ar', hp'⟩ := hal' id hin
              have := hkeep id (by rw [hp']; simp)
              rw [hpl] at this
              exact hR id ar hin this
          have hfree : Free F S own1 w (fps ++ List.replicate cap.length []).flatten := by
            rw [List.flatten_append, flatten_nils, List.append_nil]; exact k1.free
          have hpv : ptVals (c.args.toList.map a.eval ++ xs) (as ++ cap) = ids.map T := by
            rw [ptVals_append _ _ _ _ (by rw [e1]; exact hlen) hcp, hpt]
          refine call_run hE (o := ⟨dst, .call c, ty, pos, after, guard⟩) rfl hcal hfn hv ?_
          by_cases hgr : (sg.res.ground && sg.outs.isEmpty) = true
          · rw [if_pos hgr] at hk
            simp only [Bool.and_eq_true, List.isEmpty_iff] at hgr
            have hG := Sh.chk_ground hk1 hgr.1
            have hCs := call_core (Sa := fun b => S b ∨ own1 b ≠ none) f1 (hcf g (as ++ cap) p.1 p.2 hp) (fun b hb => .inl hb) (fun b hb => hb)
              (args_own (fun b => S b ∨ own1 b ≠ none) (fun b hb => .inl hb) (fun id ar _ hpl => by
                obtain ⟨hO, hob⟩ := FR.place (s := { s with M := M1 }) f1 hpl (by simp)
                exact (hO.mono (S' := fun b => S b ∨ own1 b ≠ none) (fun b hb => .inl hb) (fun _ _ => rfl) (fun _ _ => rfl)).share (fun b hb => .inr (by rw [hob b hb]; simp)))) hfree
            refine hCs.mono ?_
            rintro e w' ⟨v, S2, rfp, ofps, rfl, hcp2⟩
            obtain ⟨f2, hfr2, L2⟩ := f1.called hcp2 hfree (fun b hb => hb) (fun b hb => hcp2.hS b (.inl hb)) (fun b hb => .inl hb)
            have hou : p.2 = [] := by
              have := Sh.chk_eq hk1
              rw [hgr.2] at this
              cases hp2 : p.2 with
              | nil => rfl
              | cons x y => rw [hp2] at this; simp [chkL1, seeCons, seeNil] at this
            refine ⟨v, rfl, ret_sound f2 (ofps := ofps) (rfp := rfp) (outs := p.2) (res := p.1) (ids := ids) (fun id hid => by have := k1.len; have := hids id hid; omega) ?_ (hG _ _ _ _ _ _ hcp2.res) hfr2 dst hk⟩
            have ho2 := hcp2.outs
            rw [hpv] at ho2
            rw [hou] at ho2 ⊢
            exact ⟨ho2.1, ho2.2.1, fun j x f c _ _ hc => by simp at hc⟩
          · rw [if_neg hgr] at hk
            obtain ⟨S2, own2, f2, k2⟩ := freezeIds_sound (lentIds (c.args.toList.map s.eval)) M1 S own1 f1
            have hfree2 := hfree.sunk k2
            have hCs := call_core (Sa := S2) f2 (hcf g (as ++ cap) p.1 p.2 hp) (fun b hb => hb) (fun b hb => .inl hb)
              (args_own S2 k2.later.hS (fun id ar hin hpl => FR.place (s := { s with M := freezeIds M1 (lentIds (c.args.toList.map s.eval)) }) f2 (freeze_pl _ _ _ _ _ hpl hin) (by simp))) hfree2
            refine hCs.mono ?_
            rintro e w' ⟨v, S3, rfp, ofps, rfl, hcp2⟩
            obtain ⟨f3, hfr3, L3⟩ := f2.called hcp2 hfree2 hcp2.hS (fun b hb => hb) hcp2.new
            refine ⟨v, rfl, ret_sound f3 (ofps := ofps) (rfp := rfp) (outs := p.2) (res := p.1) (ids := ids) (fun id hid => by have := k1.len; have := k2.len; have := hids id hid; omega) ?_ hcp2.res hfr3 dst hk⟩
            have ho2 := hcp2.outs
            rw [hpv] at ho2
            exact ho2
        · exact absurd hk (by simp)
      · exact absurd hk (by simp)
    · exact absurd h (by simp)
  · exact absurd h (by simp)

theorem lentOwn_false {M : List V} {c : V} (h : lentOwn M c = false) {id : Nat} (hid : id ∈ lend1Ids c) (ar : Arr V) : pl M id ≠ .sl true ar := by
  intro hp
  cases c with
  | rs j =>
    simp only [lend1Ids, List.mem_singleton] at hid
    subst hid
    simp [lentOwn, hp] at h
  | agg l =>
    simp only [lend1Ids, List.mem_filterMap] at hid
    obtain ⟨u, hu, he⟩ := hid
    simp only [lentOwn, List.any_eq_false] at h
    have := h u hu
    cases u with
    | rs j => simp at he; subst he; simp [hp] at this
    | _ => simp at he
  | _ => simp [lend1Ids] at hid

theorem iopS_call {E : Env} {cf : CallF} (hE : EnvOK P E) (hcf : CallsOK P cf) (hF : FR F S own T s a w) (o : Oper) {c : Call} {f : Operand} (ho : o.op = .call c) (hcal : c.callee = .value f) {K : St → Option R} {r : R} {Q : Exit → Act → World → Prop}
    (hs : isSimple E s.M s.eval o = true) (h : (iopS E cf s.M s.eval o fun v => K (s.put o.dst v)) = some r) : o.wp P a w (HPost F K r) Q := by
  obtain ⟨dst, op, ty, pos, after, guard⟩ := o
  simp only at ho
  subst ho
  simp only [iopS, hcal] at h
  simp only [isSimple, hcal] at hs
  unfold fnOf at h
  split at h
  · rename_i g cap hev
    simp only [hev] at hs
    simp only at h
    split at h
    · rename_i sg fn hsg hfn
      simp only [hsg, Bool.and_eq_true, List.isEmpty_iff, Bool.not_eq_true', Bool.or_eq_true] at hs
      obtain ⟨⟨⟨hso, hsr⟩, hsno⟩, hsl⟩ := hs
      have hfv := hF.eval f
      rw [hev] at hfv
      obtain ⟨xs, hv, hxl, hxr⟩ := fn_rep hfv
      have hrt : ∀ (j : Nat) x p, ((c.args.toList.map a.eval).take (sg.tys fn).length)[j]? = some x → ((c.args.toList.map s.eval).zip (sg.tys fn))[j]? = some p → RTV S w T s.M x p.1 := by
        intro j x p hx hp
        have hp1 := zip_get hp
        rw [List.getElem?_take] at hx
        rw [if_pos (by
          rcases Nat.lt_or_ge j (sg.tys fn).length with hlt | hge
          · exact hlt
          · rw [if_neg (by omega)] at hx; cases hx)] at hx
        rw [List.getElem?_map, Option.map_eq_some_iff] at hx hp1
        obtain ⟨y, hy, rfl⟩ := hx
        obtain ⟨z, hz, he⟩ := hp1
        rw [hy] at hz; cases hz
        rw [← he]
        exact hF.eval y
      have hlen0 : ((c.args.toList.map a.eval).take (sg.tys fn).length).length = ((c.args.toList.map s.eval).zip (sg.tys fn)).length := by simp; omega
      obtain ⟨as, e1, hargs, hk⟩ := lendAll_sound hE (s := s) hF ((c.args.toList.map s.eval).zip (sg.tys fn)) ((c.args.toList.map a.eval).take (sg.tys fn).length) _ r hlen0 hrt h
      split at hk
      · rename_i hchk
        obtain ⟨hsz, hcp⟩ := hchk
        have htake : (c.args.toList.map a.eval).take (sg.tys fn).length = c.args.toList.map a.eval := List.take_of_length_le (by simp only [Sig.tys, tysOf_length]; simpa using hsz)
        rw [htake] at hargs hlen0
        have hlen := hlen0
        split at hk
        · rename_i p hp
          have args_own : ∀ Sx : Nat → Prop, (∀ b, S b → Sx b) → (∀ id ar, id ∈ lentIds (c.args.toList.map s.eval) → pl s.M id = .sl true ar → RepL Sx w (T id) (.sl false ar)) →
              OwnVs Sx w (c.args.toList.map a.eval ++ xs) (List.replicate as.length [] ++ List.replicate cap.length []) (as ++ cap) := by
            intro Sx hSx hR
            refine OwnVs.append ⟨by rw [e1]; exact hlen, by simp, fun j x fp d hx hf hd => ?_⟩ (caps_own hxl (fun j x c hx hc => (hxr j x c hx hc).mono hSx (fun _ _ => rfl)) hcp)
            have hfe : fp = [] := by
              rw [List.getElem?_replicate] at hf
              split at hf
              · exact (Option.some.inj hf).symm
              · cases hf
            subst hfe
            have hj : j < ((c.args.toList.map s.eval).zip (sg.tys fn)).length := by rw [← e1]; exact (List.getElem?_eq_some_iff.1 hd).1
            obtain ⟨p0, hp0⟩ : ∃ p0, ((c.args.toList.map s.eval).zip (sg.tys fn))[j]? = some p0 := ⟨_, List.getElem?_eq_getElem hj⟩
            have hmem : p0.1 ∈ c.args.toList.map s.eval := List.mem_of_getElem? (zip_get hp0)
            obtain ⟨hnp, hla⟩ := hargs j x p0 d hx hp0 hd
            exact hla.final hSx hnp (fun id ar hid hpl => hR id ar (lent_alive hmem hid) hpl)
          have hfl : (List.replicate as.length ([] : List Nat) ++ List.replicate cap.length []).flatten = [] := by
            rw [List.flatten_append, flatten_nils, flatten_nils]; rfl
          have hfree : Free F S own w (List.replicate as.length ([] : List Nat) ++ List.replicate cap.length []).flatten := by
            rw [hfl]; exact ⟨by simp, fun b hb => by simp at hb⟩
          have hshr := Sh.chk_shared hk hsr
          have hk2 := Sh.chk_eq hk
          refine call_run hE (o := ⟨dst, .call c, ty, pos, after, guard⟩) rfl hcal hfn hv ?_
          by_cases hgr : sg.res.ground = true
          · have hG := Sh.chk_ground hk hgr
            have hCs := call_core (Sa := fun b => S b ∨ own b ≠ none) (s := s) hF (hcf g (as ++ cap) p.1 p.2 hp) (fun b hb => .inl hb) (fun b hb => hb)
              (args_own (fun b => S b ∨ own b ≠ none) (fun b hb => .inl hb) (fun id ar _ hpl => by
                obtain ⟨hO, hob⟩ := FR.place hF hpl (by simp)
                exact (hO.mono (S' := fun b => S b ∨ own b ≠ none) (fun b hb => .inl hb) (fun _ _ => rfl) (fun _ _ => rfl)).share (fun b hb => .inr (by rw [hob b hb]; simp)))) hfree
            refine hCs.mono ?_
            rintro e w' ⟨v, S2, rfp, ofps, rfl, hcp2⟩
            obtain ⟨f2, hfr2, L2⟩ := FR.called (s := s) hF hcp2 hfree (fun b hb => hb) (fun b hb => hcp2.hS b (.inl hb)) (fun b hb => .inl hb)
            refine ⟨v, rfl, ret_sound f2 (ofps := []) (rfp := rfp) (outs := []) (res := p.1) (ids := []) (fun id hid => by simp at hid) ⟨rfl, rfl, fun j x f c _ _ hc => by simp at hc⟩ (hG _ _ _ _ _ _ hcp2.res) (hfr2.append_right (fun _ _ => rfl)) dst ?_⟩
            simp only [backAll, hshr]
            exact hk2
          · have hsl' := hsl.resolve_left hgr
            have hCs := call_core (Sa := S) (s := s) hF (hcf g (as ++ cap) p.1 p.2 hp) (fun b hb => hb) (fun b hb => .inl hb)
              (args_own S (fun b hb => hb) (fun id ar hin hpl => by
                exfalso
                rw [lentIds_eq, List.mem_flatMap] at hin
                obtain ⟨u, hu, hid⟩ := hin
                rw [List.mem_map] at hu
                obtain ⟨y, hy, rfl⟩ := hu
                rw [Array.any_eq_false'] at hsl'
                have := hsl' y (by simpa using hy)
                exact lentOwn_false (by simpa using this) hid ar hpl)) hfree
            refine hCs.mono ?_
            rintro e w' ⟨v, S2, rfp, ofps, rfl, hcp2⟩
            obtain ⟨f2, hfr2, L2⟩ := FR.called (s := s) hF hcp2 hfree hcp2.hS (fun b hb => hb) hcp2.new
            refine ⟨v, rfl, ret_sound f2 (ofps := []) (rfp := rfp) (outs := []) (res := p.1) (ids := []) (fun id hid => by simp at hid) ⟨rfl, rfl, fun j x f c _ _ hc => by simp at hc⟩ hcp2.res (hfr2.append_right (fun _ _ => rfl)) dst ?_⟩
            simp only [backAll, hshr]
            exact hk2
        · exact absurd hk (by simp)
      · exact absurd hk (by simp)
    · exact absurd h (by simp)
  · exact absurd h (by simp)

/-- one operation -/
theorem iop_sound {E : Env} {cf : CallF} (hE : EnvOK P E) (hcf : CallsOK P cf) (hF : FR F S own T s a w) (o : Oper) {K : St → Option R} {r : R} {Q : Exit → Act → World → Prop} (h : iop E cf s o K = some r) : o.wp P a w (HPost F K r) Q := by
  rw [iop_eq] at h
  split at h
  · rename_i hs
    by_cases hc : ∃ c f, o.op = .call c ∧ c.callee = .value f
    · obtain ⟨c, f, ho, hcal⟩ := hc
      exact iopS_call hE hcf hF o ho hcal hs h
    · obtain ⟨v, d, w', S', hr, hF', hrt, hk⟩ := iopS_value hE hF o hs (fun c ho => by
        cases hcal : c.callee with
        | builtin b => exact ⟨b, rfl⟩
        | value f => exact absurd ⟨c, f, ho, hcal⟩ hc
        | invoke x y => simp [isSimple, ho, hcal] at hs) h
      exact wp_value hr ⟨S', own, T, _, hF'.put o.dst hrt, hk⟩
  · by_cases hc : ∃ c f, o.op = .call c ∧ c.callee = .value f
    · obtain ⟨c, f, ho, hcal⟩ := hc
      exact iopH_call hE hcf hF o ho hcal h
    · refine iopH_value hE hF o (fun c ho => ?_) h
      cases hcal : c.callee with
      | builtin b => exact ⟨b, rfl⟩
      | value f => exact absurd ⟨c, f, ho, hcal⟩ hc
      | invoke x y => simp [iopH_eq, iopP, ho, hcal] at h
end
end Go.Proofs.Ytfkkigbbejhfbaa.Idl
