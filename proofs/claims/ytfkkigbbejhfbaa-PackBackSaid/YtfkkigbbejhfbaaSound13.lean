/- The operations on places but calls of functions. -/
import Derived.Test.YtfkkigbbejhfbaaSound12
namespace Go.Proofs.Ytfkkigbbejhfbaa.Idl
open Go
variable {P : Program}
section
variable {F : Fx} {S S' : Nat → Prop} {own own' : Nat → Option Nat} {T T' : Nat → Value} {s : St} {a : Act} {w w' : World} {M : List V} {R : Type}

set_option maxHeartbeats 4000000 in
theorem iopH_value {E : Env} {cf : CallF} (hE : EnvOK P E) (hF : FR F S own T s a w) (o : Oper) {Kc : St → Option R} {r : R} {Q : Exit → Act → World → Prop}
    (hnc : ∀ c, o.op = .call c → ∃ b, c.callee = .builtin b) (h : iopH E cf s o Kc = some r) : o.wp P a w (HPost F Kc r) Q := by
  obtain ⟨dst, op, ty, pos, after, guard⟩ := o
  have fin : ∀ {x : Sem Value} {v : Value} {w' : World} {S' : Nat → Prop} {own' : Nat → Option Nat} {T' : Nat → Value} {M' : List V} {c : V} {op : Op}, execOp a.eval ⟨dst, op, ty, pos, after, guard⟩ = (do pure (Next.value (← x))) → x.run P w = .ok v w' →
      FR F S' own' T' { s with M := M' } a w' → RTV S' w' T' M' v c → Kc ({ s with M := M' }.put dst c) = some r → (⟨dst, op, ty, pos, after, guard⟩ : Oper).wp P a w (HPost F Kc r) Q := by
    intro x v w' S' own' T' M' c op hx hr f hv hk
    exact wp_value (v := v) (w' := w') (by rw [hx, Sem.run_bind, hr]; rfl) ⟨S', own', T', _, f.put' dst hv, hk⟩
  have finu : ∀ {x : Sem Unit} {w' : World} {S' : Nat → Prop} {own' : Nat → Option Nat} {T' : Nat → Value} {M' : List V} {op : Op}, execOp a.eval ⟨dst, op, ty, pos, after, guard⟩ = (do x; pure Next.skip) → x.run P w = .ok () w' →
      FR F S' own' T' { s with M := M' } a w' → Kc ({ s with M := M' }.put dst .dead) = some r → (⟨dst, op, ty, pos, after, guard⟩ : Oper).wp P a w (HPost F Kc r) Q := by
    intro x w' S' own' T' M' op hx hr f hk
    exact wp_skip' (w' := w') (by rw [hx, Sem.run_bind, hr]; rfl) ⟨S', own', T', _, FR.put (s := { s with M := M' }) (c := .dead) f dst trivial, hk⟩
  cases op
  case assign x =>
    simp only [iopH_eq, iopP] at h
    obtain ⟨own1, T1, M1, c1, f1, L1, hv, _, _, _, hk⟩ := typed_sound hE hF (hF.eval x) h
    exact wp_value (v := a.eval x) (w' := w) rfl ⟨S, own1, T1, _, f1.put' dst hv, hk⟩
  case alloc t =>
    simp only [iopH_eq, iopP] at h
    split at h
    · rename_i ti hti
      have hT := hE.ty t ti hti
      obtain ⟨i, z, hi, hsz, hbb, hzz, hzc, hzl, hzr⟩ := hT.info
      obtain ⟨own1, T1, f1, L1, _, hlen, hr⟩ := layZero_sound ti.zero s.M own T z.cells.toList (s := s) hF (by simp [hzc, hzl]) (fun j x c hx hc => hzr j x c (by rw [← Array.getElem?_toList]; exact hx) hc)
      obtain ⟨own2, T2, f2, hv⟩ := FR.newObj f1 z.cells (layZero s.M ti.zero).2 t (by rw [hlen, hzc, hzl]) (fun j x c hx hc => hr j x c (by rw [Array.getElem?_toList]; exact hx) hc)
      refine fin (x := Instr.alloc t true (.tuple #[])) rfl ?_ f2 hv h
      simp [Instr.alloc, zeroValue, typeInfo, hi, hzz, newVar, newRow]
    · exact absurd h (by simp)
  case box t x =>
    simp only [iopH_eq, iopP] at h
    split at h
    · rename_i ti hti
      obtain ⟨own1, T1, M1, c1, f1, L1, hv, _, _, _, hk⟩ := typed_sound hE hF (hF.eval x) h
      split at hk
      · rename_i hc
        obtain ⟨hcl, hcr⟩ := cells_of hv hc.2
        obtain ⟨own2, T2, f2, hv2⟩ := FR.newObj f1 (a.eval x).cells c1.cells t hcl hcr
        refine fin (x := Instr.box t (a.eval x)) rfl ?_ f2 hv2 hk
        simp [Instr.box, newVar, newRow]
      · exact absurd hk (by simp)
    · exact absurd h (by simp)
  case buildSlice t n parts =>
    simp only [iopH_eq, iopP] at h
    split at h
    · rename_i te hte
      obtain ⟨v, c, w', S', own', T', M', hrun, f, hv, hk⟩ := buildSlice_sound hE hF hte (Kc := fun M v => Kc ({ s with M := M }.put dst v)) h
      exact fin (x := Instr.buildSlice t n (parts.map fun (i, x) => (i, a.eval x))) rfl hrun f hv hk
    · exact absurd h (by simp)
  case makeSlice t l c =>
    simp only [iopH_eq, iopP] at h
    split at h
    · rename_i te kl n kc m hte hel hec
      split at h
      · rename_i hb
        obtain ⟨v, c', w', own', T', M', hrun, f, hv, hk⟩ := makeSlice_sound hE hF hte (by rw [← hel]; exact hF.eval l) (by rw [← hec]; exact hF.eval c) (Kc := fun M v => Kc ({ s with M := M }.put dst v)) hb h
        exact fin (x := Instr.makeSlice t (a.eval l) (a.eval c)) rfl hrun f hv hk
      · exact absurd h (by simp)
    · exact absurd h (by simp)
  case slice t x lo hi mx =>
    simp only [iopH_eq, iopP] at h
    split at h
    · rename_i id hev
      split at h
      · rename_i o ar hpl
        have hlt := pl_lt hpl (by simp)
        have hx := hF.eval x
        rw [hev] at hx
        have hsl : ∀ o' ar', V.sl false ar = .sl o' ar' → ∃ o'' a', pl s.M id = .sl o'' a' ∧ a'.esz = ar'.esz ∧ a'.len = ar'.len := by
          intro o' ar' e
          cases e
          exact ⟨o, ar, hpl, rfl, rfl⟩
        have hP := hF.place hpl (by simp)
        have hrep : RepL (plus S True own id) w (T id) (.sl false ar) := by
          cases o with
          | false => exact RepL.mono (fun b hb => .inl hb) (fun _ _ => rfl) hP
          | true => exact (hP.1.mono (S' := plus S True own id) (fun b hb => .inl hb) (fun _ _ => rfl) (fun _ _ => rfl)).share (fun b hb => .inr ⟨trivial, hP.2 b hb⟩)
        have f1 := hF.drop id True (.sl false ar) hlt hsl hrep
        have k1 := hF.drop_sunk id True (.sl false ar) hsl (by simp)
        have opt : ∀ y : Option Operand, OptR (plus S True own id) w T (s.M.set id (.sl false ar)) (y.map a.eval) (y.map s.eval) := by
          intro y
          cases y with
          | none => trivial
          | some y => exact (hF.eval y).later k1.later
        obtain ⟨v, c, hr, hv, hk⟩ := sliceV_sound hE f1 (hx.later k1.later) (opt lo) (opt hi) (opt mx) h (fun id' hid ar' hp => by
          cases hid
          rw [pl_set, if_pos ⟨rfl, hlt⟩] at hp
          cases hp)
        exact fin (x := Instr.sliceAt t (a.eval x) (lo.map a.eval) (hi.map a.eval) (mx.map a.eval)) rfl hr f1 hv hk
      · exact absurd h (by simp)
    · exact absurd h (by simp)
  case makeFunc f first cap =>
    simp only [iopH_eq, iopP] at h
    split at h
    · rename_i f
      split at h
      · rename_i hfe
        obtain ⟨S1, own1, M1, l1, f1, k1, hlen1, hrep, hk⟩ := shareAll_sound (s := s) (cap.toList.map s.eval) s.M S own (cap.toList.map a.eval) _ r hF (by simp)
          (fun j x c hx hc => by
            simp only [List.getElem?_map, Option.map_eq_some_iff] at hx hc
            obtain ⟨p, hp, rfl⟩ := hx
            obtain ⟨q, hq, rfl⟩ := hc
            rw [hp] at hq; cases hq
            exact hF.eval _) h
        split at hk
        · rename_i hpl
          have hf0 : first = #[] := by simpa using hfe
          subst hf0
          have hfn := RepL.fn (S := S1) (w := w) f l1 (cap.toList.map a.eval) (by simpa using hlen1.symm) (fun j x c hx hc => by
            have hp : c.plain1 = true := (List.all_eq_true.1 hpl) c (List.mem_of_getElem? hc)
            have := hrep j x c hx hc
            cases c <;> first | exact this | simp [V.plain1] at hp)
          have e : (cap.toList.map a.eval).toArray = cap.map a.eval := by apply Array.ext'; simp
          rw [e] at hfn
          exact wp_value (v := .func (.func f) #[] (cap.map a.eval)) (w' := w) (by simp [execOp, Instr.makeFunc]) ⟨S1, own1, T, _, f1.put' dst (.of_rep hfn), hk⟩
        · exact absurd hk (by simp)
      · exact absurd h (by simp)
    · exact absurd h (by simp)
  case store t x y =>
    simp only [iopH_eq, iopP] at h
    split at h
    · rename_i ti hti
      have hT := hE.ty t ti hti
      obtain ⟨own1, T1, M1, c1, f1, L1, hv, _, _, _, hk⟩ := typed_sound hE hF (hF.eval y) h
      have hx := (hF.eval x).later L1
      split at hk
      · rename_i hcl
        split at hk
        · rename_i id off hev
          rw [hev] at hx
          obtain ⟨hlt, b, hTid, hax⟩ := rtv_pr hx
          split at hk
          · rename_i l hpl
            obtain ⟨b', cs, e, q1, q2, q3, q4, q5⟩ := f1.place hpl (by simp)
            have q1' : T1 id = Value.pointer (some ⟨b', 0, none⟩) := q1
            rw [hTid] at q1'
            cases q1'
            unfold setCells at hk
            split at hk
            · rename_i hc
              obtain ⟨hok, hle⟩ := hc
              obtain ⟨hsz, hcr⟩ := cells_of hv hok
              have hone : ∀ u ∈ (a.eval y).cells.toList, u.oneCell' = true := by
                intro u hu
                obtain ⟨j, hj, rfl⟩ := List.getElem_of_mem hu
                have hj' : j < (a.eval y).cells.size := by simpa using hj
                have hjl : j < c1.cells.length := by omega
                obtain ⟨h1, h2⟩ := hcr j _ _ (Array.getElem?_eq_getElem hj') (List.getElem?_eq_getElem hjl)
                simp only [Array.getElem_toList]
                exact rt_one h2 (by intro e; rw [e] at h1; simp [okCell] at h1) (by intro id i off e; rw [e] at h1; simp [okCell] at h1)
              have hrun := run_storeAt_ok (P := P) hT b off (a.eval y) (by rw [hsz, hcl]) q2 (by rw [hsz, q3]; exact hle) hone
              have f2 := FR.storeObj f1 hpl hTid q2 q3 q4 q5 off (a.eval y).cells.toList c1.cells (by simpa using hsz) hle (fun j x c hx hc => hcr j x c (by rw [← Array.getElem?_toList]; exact hx) hc)
              exact finu (x := Instr.storeAt t (a.eval x) (a.eval y)) rfl (by rw [hax]; exact hrun) f2 hk
            · exact absurd hk (by simp)
          · exact absurd hk (by simp)
        · rename_i id i off hev
          rw [hev] at hx
          obtain ⟨hlt, hrt⟩ := (show RT S w T1 M1 (a.eval x) (.er id i off) from hx)
          split at hk
          · rename_i ar hpl
            split at hk
            · rename_i hs1
              obtain ⟨S2, own2, M2, c2, f2, k2, hra, hk⟩ := share_sound f1 hv hk
              split at hk
              · rename_i hpl1
                obtain ⟨ar', hk', hoff, he1, he2, hl2, ht2⟩ := set_eq hk
                clear hk
                subst hoff
                split at hk'
                · rename_i ar2 hpl2
                  obtain ⟨hil, b, len, cap, hTid, hax⟩ := hrt true ar hpl
                  have hpl3 := k2.keep id ar2 hpl2
                  rw [hpl] at hpl3
                  cases hpl3
                  have hrl : RepL S2 w (a.eval y) c2 := by
                    cases c2 <;> first | exact hra | simp [V.plain1] at hpl1
                  have f3 := FR.storeElem f2 hpl2 hTid hrl he1 he2 hl2 ht2
                  have hcell1 := hrl.cells.1
                  have hb0 : ∃ cur e, w.heap[b]? = some (.cells cur e (0, 0)) ∧ i + 1 ≤ cur.size := by
                    obtain ⟨⟨_, ⟨e, xs, hown, _⟩, _⟩, _⟩ := f2.place hpl2 (by simp)
                    rcases hown.2 with ⟨h0, _⟩ | ⟨g, cap', cur, h0, _, hg, hnc, _, hcs, _⟩
                    · rw [hTid] at h0; cases h0
                    · rw [hTid] at h0
                      cases h0
                      exact ⟨cur, e, hg, by rw [hcs, he1]; omega⟩
                  obtain ⟨cur, e, hg, hsz⟩ := hb0
                  have hrun := run_storeAt_ok (P := P) hT b (i * ar.esz + 0) (a.eval y) (by rw [hcell1, hs1]; rfl) hg (by rw [hcell1, he1]; simpa using hsz) (by rw [hcell1]; simpa using hrl.one)
                  rw [he1, hcell1] at hrun
                  simp only [Nat.mul_one, Nat.add_zero] at hrun
                  rw [he1] at hax
                  simp only [Nat.mul_one, Nat.add_zero] at hax
                  exact finu (x := Instr.storeAt t (a.eval x) (a.eval y)) rfl (by rw [hax]; exact hrun) f3 hk'
                · exact absurd hk' (by simp)
              · exact absurd hk (by simp)
            · exact absurd hk (by simp)
          · exact absurd hk (by simp)
        · exact absurd hk (by simp)
      · exact absurd hk (by simp)
    · exact absurd h (by simp)
  case call c =>
    simp only [iopH_eq, iopP] at h
    obtain ⟨b, hb⟩ := hnc c rfl
    obtain ⟨callee, args, argTypes⟩ := c
    try simp only at hb
    subst hb
    try simp only at h
    split at h
    · rename_i x y hargs
      have hargs' : args = #[x, y] := by apply Array.ext'; simpa using hargs
      subst hargs'
      split at h
      · rename_i t u hts
        have hts' : argTypes = #[t, u] := by apply Array.ext'; simpa using hts
        subst hts'
        obtain ⟨v, w', own', T', M', c, hr, f, hv, hk⟩ := appendV_sound (P := P) (ty := ty) hE hF (hF.eval x) (hF.eval y) (Kc := fun M v => Kc ({ s with M := M }.put dst v)) h
        exact wp_value (v := v) (w' := w') (by simp [execOp, resolve, invoke, builtin, hr]) ⟨S, own', T', _, f.put' dst hv, hk⟩
      · exact absurd h (by simp)
    · exact absurd h (by simp)
  all_goals simp [iopH_eq, iopP] at h
end
end Go.Proofs.Ytfkkigbbejhfbaa.Idl
