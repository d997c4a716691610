/- Structs built, functions made; the simple operations but calls, all together. -/
import Derived.Test.YtfkkigbbejhfbaaSound5
import Derived.Laws.Tables
namespace Go.Proofs.Ytfkkigbbejhfbaa.Idl
open Go
variable {P : Program}
section
variable {F : Fx} {S S' : Nat → Prop} {own : Nat → Option Nat} {T : Nat → Value} {s : St} {a : Act} {w w' : World} {M : List V} {R : Type}

def CellsRel (S : Nat → Prop) (w : World) (T : Nat → Value) (M : List V) (cells : List Value) (cs : List V) : Prop :=
  cells.length = cs.length ∧ ∀ (j : Nat) x c, cells[j]? = some x → cs[j]? = some c → c ≠ .dead ∧ RT S w T M x c

theorem CellsRel.splice {cells xs : List Value} {cs l : List V} (h : CellsRel S w T M cells cs) (hx : CellsRel S w T M xs l) (o : Nat) (ho : o + l.length ≤ cs.length) :
    CellsRel S w T M (cells.take o ++ xs ++ cells.drop (o + xs.length)) (cs.take o ++ l ++ cs.drop (o + l.length)) := by
  obtain ⟨h1, h2⟩ := h
  obtain ⟨h3, h4⟩ := hx
  refine ⟨by simp [h1, h3], fun j x c hx hc => ?_⟩
  rw [List.append_assoc] at hx hc
  by_cases hj : j < o
  · rw [List.getElem?_append_left (by simp; omega), List.getElem?_take, if_pos hj] at hx hc
    exact h2 j x c hx hc
  · rw [List.getElem?_append_right (by simp; omega)] at hx hc
    have e1 : j - (cells.take o).length = j - o := by simp; omega
    have e2 : j - (cs.take o).length = j - o := by simp; omega
    rw [e1] at hx
    rw [e2] at hc
    by_cases hj2 : j - o < l.length
    · rw [List.getElem?_append_left (by omega)] at hx hc
      exact h4 _ x c hx hc
    · rw [List.getElem?_append_right (by omega), List.getElem?_drop] at hx hc
      rw [h3] at hx
      exact h2 _ x c hx hc

theorem foldl_cells : ∀ (xs : List Value) (o k : Nat) (cells : Array Value), o + k + xs.length ≤ cells.size →
    ((xs.zipIdx k).foldl (fun cs (p : Value × Nat) => cs.setIfInBounds (o + p.2) p.1) cells).toList = cells.toList.take (o + k) ++ xs ++ cells.toList.drop (o + k + xs.length)
  | [], o, k, cells, _ => by simp
  | x :: xs, o, k, cells, h => by
    simp only [List.zipIdx_cons, List.foldl_cons]
    rw [foldl_cells xs o (k + 1) _ (by simp at h ⊢; omega)]
    simp only [Array.toList_setIfInBounds, List.length_cons] at h ⊢
    have hlt : o + k < cells.toList.length := by simp; omega
    rw [show o + (k + 1) = o + k + 1 from rfl, List.take_add_one, List.getElem?_set_self hlt, List.take_set_of_le (Nat.le_refl _), List.drop_set_of_lt (by omega)]
    simp
    congr 1
    omega

theorem fill_one (pf : Nat → Option (Nat × Nat)) (cells : Array Value) (i o sz : Nat) (v : Value) (rest : List (Nat × Value)) (hp : pf i = some (o, sz)) (hv : v.cells.size = sz) (ho : o + sz ≤ cells.size) :
    Instr.fill pf cells ((i, v) :: rest) = Instr.fill pf (cells.toList.take o ++ v.cells.toList ++ cells.toList.drop (o + v.cells.toList.length)).toArray rest := by
  have e : (v.cells.zipIdx.foldl (fun cs (p : Value × Nat) => cs.setIfInBounds (o + p.2) p.1) cells) = (cells.toList.take o ++ v.cells.toList ++ cells.toList.drop (o + v.cells.toList.length)).toArray := by
    apply Array.ext'
    have := foldl_cells v.cells.toList o 0 cells (by simp; omega)
    simp only [Nat.add_zero] at this
    rw [← Array.foldl_toList, Array.toList_zipIdx, this]
  simp only [Instr.fill, hp]
  rw [if_neg (by simp; omega)]
  rw [← e]

theorem rt_one {v : Value} {c : V} (h : RT S w T M v c) (hd : c ≠ .dead) (he : ∀ id i off, c ≠ .er id i off) : v.oneCell' = true := by
  cases c with
  | dead => exact absurd rfl hd
  | er id i off => exact absurd rfl (he id i off)
  | rs id => exact h.2.2
  | pr id off => obtain ⟨_, b, _, rfl⟩ := h; rfl
  | bool b => exact RepL.one h
  | int k n => exact RepL.one h
  | str s => exact RepL.one h
  | nils => exact RepL.one h
  | nilp => exact RepL.one h
  | nilf => exact RepL.one h
  | sl o a => exact RepL.one h
  | agg l => exact RepL.one h
  | tup l => exact RepL.one h
  | pv l off => exact RepL.one h
  | pt l => exact RepL.one h
  | fn f cap => exact RepL.one h
theorem one_cells {v : Value} (h : v.oneCell' = true) : v.cells = #[v] := by cases v <;> first | rfl | (simp [Value.oneCell'] at h)

theorem partsV_sound {E : Env} (hE : EnvOK P E) {fs : List (Nat × Nat)} (pf : Nat → Option (Nat × Nat)) (hpf : ∀ (i o ft : Nat) fi, fs[i]? = some (o, ft) → E.ty ft = some fi → pf i = some (o, fi.size)) {Kc : List V → Option R} {r : R} :
    ∀ (ps : List (Nat × V)) (vs : List (Nat × Value)) (cs : List V) (cells : List Value), vs.length = ps.length → (∀ (j : Nat) p q, vs[j]? = some p → ps[j]? = some q → p.1 = q.1 ∧ RTV S w T M p.2 q.2) →
      CellsRel S w T M cells cs → partsV E fs ps cs Kc = some r → ∃ cells' cs', Instr.fill pf cells.toArray vs = some (cells' : List Value).toArray ∧ CellsRel S w T M cells' cs' ∧ Kc cs' = some r
  | [], [], cs, cells, _, _, hrel, h => ⟨cells, cs, rfl, hrel, h⟩
  | [], _ :: _, _, _, hl, _, _, _ => by simp at hl
  | _ :: _, [], _, _, hl, _, _, _ => by simp at hl
  | (i, c) :: ps, (i', v) :: vs, cs, cells, hl, hps, hrel, h => by
    obtain ⟨e1, hrt⟩ := hps 0 _ _ rfl rfl
    simp only at e1 hrt
    subst e1
    have hps' : ∀ (j : Nat) p q, vs[j]? = some p → ps[j]? = some q → p.1 = q.1 ∧ RTV S w T M p.2 q.2 := fun j p q hp hq => hps (j + 1) p q hp hq
    have hl' : vs.length = ps.length := by simpa using hl
    have go : ∀ (o sz : Nat) (l : List V) (xs : List Value), pf i' = some (o, sz) → v.cells = xs.toArray → xs.length = sz → l.length = sz → o + sz ≤ cs.length → CellsRel S w T M xs l →
        partsV E fs ps (cs.take o ++ l ++ cs.drop (o + sz)) Kc = some r → ∃ cells' cs', Instr.fill pf cells.toArray ((i', v) :: vs) = some (cells' : List Value).toArray ∧ CellsRel S w T M cells' cs' ∧ Kc cs' = some r := by
      intro o sz l xs hp hv hx hls ho hrx h'
      obtain ⟨cells', cs', h1, h2, h3⟩ := partsV_sound hE pf hpf ps vs _ (cells.take o ++ xs ++ cells.drop (o + xs.length)) hl' hps' (hrel.splice hrx o (by omega)) (by rw [hls]; exact h')
      refine ⟨cells', cs', ?_, h2, h3⟩
      rw [fill_one pf cells.toArray i' o sz v vs hp (by rw [hv]; simpa using hx) (by have := hrel.1; simp; omega), ← h1]
      simp [hv]
    simp only [partsV] at h
    split at h
    · exact absurd h (by simp)
    · rename_i o ft hfo
      split at h
      · exact absurd h (by simp)
      · rename_i fi hfi
        have hp := hpf i' o ft fi hfo hfi
        have single : (∀ id i off, c ≠ .er id i off) → c ≠ .dead → RT S w T M v c → fi.size = 1 → o < cs.length → partsV E fs ps (cs.set o c) Kc = some r → ∃ cells' cs', Instr.fill pf cells.toArray ((i', v) :: vs) = some (cells' : List Value).toArray ∧ CellsRel S w T M cells' cs' ∧ Kc cs' = some r := by
          intro h1 h2 h3 h4 h5 h6
          rw [h4] at hp
          refine go o 1 [c] [v] hp (by rw [one_cells (rt_one h3 h2 h1)]) rfl rfl (by omega) ⟨rfl, fun j x c' hx hc => ?_⟩ ?_
          · cases j with
            | zero => simp at hx hc; subst hx hc; exact ⟨h2, h3⟩
            | succ j => simp at hx
          · rw [List.set_eq_take_append_cons_drop, if_pos h5] at h6
            simpa using h6
        split at h
        · split at h
          · rename_i te hte
            have ev := rtv_nils hrt
            subst ev
            obtain ⟨e, hu, hte', hT⟩ := elemTI_ok hE hte
            split at h
            · rename_i h45
              obtain ⟨h4, h5⟩ := h45
              rw [h4] at hp
              refine go o 1 [.sl false te.ek.nil] [.slice none 0 0] hp rfl rfl rfl (by omega) ⟨rfl, fun j x c' hx hc => ?_⟩ ?_
              · cases j with
                | zero =>
                  simp at hx hc; subst hx hc
                  exact ⟨by simp, .of_rep (.slE none 0 _ (by cases te.ek <;> rfl))⟩
                | succ j => simp at hx
              · rw [List.set_eq_take_append_cons_drop, if_pos h5] at h
                simpa using h
            · exact absurd h (by simp)
          · exact absurd h (by simp)
        · exact absurd h (by simp)
        · exact absurd h (by simp)
        · exact absurd h (by simp)
        · rename_i l
          obtain ⟨xs, rfl, hlen, hxs⟩ := (show RTA S w T M v (.agg l) from hrt)
          split at h
          · rename_i hle
            exact go o fi.size l xs hp rfl (by omega) (by omega) (by omega) ⟨hlen, hxs⟩ h
          · exact absurd h (by simp)
        · rename_i n1 n2 n3 n4 n5
          split at h
          · rename_i hle
            have hrt' : RT S w T M v c := by
              cases c with
              | agg l => exact absurd rfl (n5 l)
              | tup l => exact absurd rfl (n3 l)
              | _ => exact hrt
            exact single (fun id i off => n2 id i off) (fun hd => n4 hd) hrt' hle.1 hle.2 h
          · exact absurd h (by simp)

theorem zeroL_rt {x : Value} {c : V} (h : ZeroL x c) : c ≠ .dead ∧ RT S w T M x c := by
  cases c with
  | int k n => obtain ⟨rfl, rfl⟩ := h; exact ⟨by simp, .of_rep (.int ..)⟩
  | bool b => obtain ⟨rfl, rfl⟩ := h; exact ⟨by simp, .of_rep (.bool ..)⟩
  | str s => cases (show x = .string s from h); exact ⟨by simp, .of_rep (.str ..)⟩
  | nilp => cases (show x = .pointer none from h); exact ⟨by simp, .of_rep .nilp⟩
  | nilf => cases (show x = .nilFunc from h); exact ⟨by simp, .of_rep .nilf⟩
  | sl o a => obtain ⟨rfl, h0, _, rfl⟩ := h; exact ⟨by simp, .of_rep (.slE none 0 a h0)⟩
  | dead => exact h.elim
  | nils => exact h.elim
  | agg l => exact h.elim
  | tup l => exact h.elim
  | pv l off => exact h.elim
  | pt l => exact h.elim
  | fn f cap => exact h.elim
  | rs id => exact h.elim
  | pr id off => exact h.elim
  | er id i off => exact h.elim

theorem mapM_info {P : Program} : ∀ (fields : List Field), (∀ f, f ∈ fields → ∃ k, P.info? f.type = some k) →
    ∃ places : List (Nat × Nat), fields.mapM (fun f => (P.info? f.type).map fun i => (f.offset, i.size)) = some places ∧ places.length = fields.length ∧
      ∀ (i : Nat) f k, fields[i]? = some f → P.info? f.type = some k → places[i]? = some (f.offset, k.size)
  | [], _ => ⟨[], rfl, rfl, fun i f k h _ => by simp at h⟩
  | f :: fs, h => by
    obtain ⟨k, hk⟩ := h f (by simp)
    obtain ⟨ps, h1, h2, h3⟩ := mapM_info fs (fun g hg => h g (by simp [hg]))
    refine ⟨(f.offset, k.size) :: ps, by simp [List.mapM_cons, hk, h1], by simp [h2], fun i g k' hg hk' => ?_⟩
    cases i with
    | zero => simp at hg; subst hg; rw [hk] at hk'; cases hk'; rfl
    | succ i => exact h3 i g k' hg hk'

theorem buildV_sound {E : Env} (hE : EnvOK P E) (hF : FR F S own T s a w) {t : Nat} {parts : Array (Nat × Operand)} {ti : TI} {fs : List (Nat × Nat)} (hti : E.ty t = some ti) (hd : ti.d = .struct fs) {Kc : V → Option R} {r : R}
    (h : partsV E fs (parts.toList.map fun p => (p.1, s.eval p.2)) ti.zero (fun cs => Kc (.agg cs)) = some r) :
    ∃ v c, (Instr.build t (parts.map fun (i, x) => (i, a.eval x))).run P w = .ok v w ∧ RTV S w T s.M v c ∧ Kc c = some r := by
  have hT := hE.ty t ti hti
  have hdesc := hT.desc
  rw [hd] at hdesc
  obtain ⟨fields, hu, hfsz, hfs⟩ := hdesc
  obtain ⟨i0, z, hi, hsz, _, hz, hzc, hzl, hzr⟩ := hT.info
  have hinf : ∀ f, f ∈ fields.toList → ∃ k, P.info? f.type = some k := by
    intro f hf
    obtain ⟨i, hi, hfi⟩ := List.getElem_of_mem hf
    have hil : i < fs.length := by rw [← hfsz]; simpa using hi
    obtain ⟨f', h1, h2, h3, k, h4, _⟩ := hfs i fs[i].1 fs[i].2 (by simp [List.getElem?_eq_getElem hil])
    have : f' = f := by
      have h5 : fields[i]? = some f := by rw [← Array.getElem?_toList, List.getElem?_eq_getElem hi, hfi]
      rw [h1] at h5; exact Option.some.inj h5
    subst this
    exact ⟨k, by rw [h3]; exact h4⟩
  obtain ⟨places, hpl, hpll, hpli⟩ := mapM_info fields.toList hinf
  have hpf : ∀ (i o ft : Nat) fi, fs[i]? = some (o, ft) → E.ty ft = some fi → (places.toArray[i]?) = some (o, fi.size) := by
    intro i o ft fi hfo hfi
    obtain ⟨f, h1, h2, h3, k, h4, _⟩ := hfs i o ft hfo
    obtain ⟨i1, z1, hi1, hs1, _⟩ := (hE.ty ft fi hfi).info
    have := hpli i f k (by rw [Array.getElem?_toList]; exact h1) (by rw [h3]; exact h4)
    rw [hi1] at h4
    cases h4
    rw [h2] at this
    rw [List.getElem?_toArray, this, hs1]
  obtain ⟨cells', cs', h1, h2, h3⟩ := partsV_sound (S := S) (w := w) (T := T) (M := s.M) hE (fun i => places.toArray[i]?) hpf (parts.toList.map fun p => (p.1, s.eval p.2)) (parts.toList.map fun p => (p.1, a.eval p.2)) ti.zero z.cells.toList
    (by simp) (fun j p q hp hq => by
      simp only [List.getElem?_map, Option.map_eq_some_iff] at hp hq
      obtain ⟨p0, h0, rfl⟩ := hp
      obtain ⟨q0, h0', rfl⟩ := hq
      rw [h0] at h0'; cases h0'
      exact ⟨rfl, hF.eval _⟩)
    ⟨by simp [hzc, hzl], fun j x c hx hc => zeroL_rt (hzr j x c (by rw [← Array.getElem?_toList]; exact hx) hc)⟩ h
  refine ⟨.agg cells'.toArray, .agg cs', run_build w t _ _ ?_, ⟨cells', rfl, h2.1, h2.2⟩, h3⟩
  unfold Program.built
  rw [hi, hu]
  simp only [hz, hpl]
  have e1 : (parts.map fun (x : Nat × Operand) => (x.1, a.eval x.2)).toList = parts.toList.map fun p => (p.1, a.eval p.2) := by simp
  rw [e1]
  simpa using h1

theorem plain1_rep {v : Value} {c : V} (h : RTV S w T M v c) (hp : c.plain1 = true) : RepL S w v c := by
  cases c with
  | rs id => simp [V.plain1] at hp
  | pr id off => simp [V.plain1] at hp
  | er id i off => simp [V.plain1] at hp
  | dead => simp [V.plain1] at hp
  | agg l => simp [V.plain1] at hp
  | tup l => simp [V.plain1] at hp
  | bool b => exact h
  | int k n => exact h
  | str s => exact h
  | nils => exact h
  | nilp => exact h
  | nilf => exact h
  | sl o a => exact h
  | pv l off => exact h
  | pt l => exact h
  | fn f cap => exact h

/-- the simple operations that run no other code -/
theorem iopS_value {E : Env} {cf : CallF} (hE : EnvOK P E) (hF : FR F S own T s a w) (o : Oper) {Kc : V → Option R} {r : R} (hs : isSimple E s.M s.eval o = true)
    (hnc : ∀ c, o.op = .call c → ∃ b, c.callee = .builtin b) (h : iopS E cf s.M s.eval o Kc = some r) :
    ∃ v c w' S', (execOp a.eval o).run P w = .ok (.value v) w' ∧ FR F S' own T s a w' ∧ RTV S' w' T s.M v c ∧ Kc c = some r := by
  obtain ⟨dst, op, ty, pos, after, guard⟩ := o
  have wrap : ∀ {x : Sem Value}, (∃ v c, x.run P w = .ok v w ∧ RTV S w T s.M v c ∧ Kc c = some r) →
      ∃ v c w' S', (do pure (Next.value (← x)) : Sem Next).run P w = .ok (.value v) w' ∧ FR F S' own T s a w' ∧ RTV S' w' T s.M v c ∧ Kc c = some r := by
    rintro x ⟨v, c, hr, hc⟩
    exact ⟨v, c, w, S, by rw [Sem.run_bind, hr]; rfl, hF, hc⟩
  cases op <;> simp only [iopS, reduceCtorEq] at h
  case move x => exact ⟨_, _, w, S, rfl, hF, hF.eval x, h⟩
  case assign x => exact ⟨_, _, w, S, rfl, hF, hF.eval x, h⟩
  case pick c x y =>
    obtain ⟨v, c', hr, hc⟩ := pickV_sound (hF.eval c) (hF.eval x) (hF.eval y) h
    exact ⟨v, c', w, S, hr, hF, hc⟩
  case build t parts =>
    split at h
    · rename_i ti hti
      split at h
      · rename_i fs hd
        exact wrap (buildV_sound hE hF hti hd h)
      · exact absurd h (by simp)
    · exact absurd h (by simp)
  case load t x => exact wrap (loadV_sound hE hF (hF.eval x) h)
  case nilCheck x =>
    have hx := hF.eval x
    split at h
    · rename_i l off hev
      rw [hev] at hx
      obtain ⟨b, o, hv, _⟩ := cellsAt_pv (T := T) (M := s.M) (rtv_pv hx)
      refine ⟨a.eval x, _, w, S, ?_, hF, by rw [hv] at hx ⊢; exact hx, h⟩
      simp only [execOp, hv]
      rfl
    · rename_i id off hev
      rw [hev] at hx
      obtain ⟨hlt, b, hT, hv⟩ := rtv_pr hx
      refine ⟨a.eval x, .pr id off, w, S, ?_, hF, hx, h⟩
      simp only [execOp, hv]
      rfl
    · exact absurd h (by simp)
  case binOp op t x y yt =>
    obtain ⟨v, c, hr, hc⟩ := binOpV_sound hE (ox := x) (oy := y) (hF.eval x) (hF.eval y) h
    exact wrap ⟨v, c, hr, hc⟩
  case unOp op t x => exact wrap (unOpV_sound (hF.eval x) h)
  case convert src dst x =>
    obtain ⟨v, c, w', S', hr, hF', hc⟩ := convV_sound hE hF (hF.eval x) h
    exact ⟨v, c, w', S', by simp only [execOp]; rw [Sem.run_bind, hr]; rfl, hF', hc⟩
  case makeFunc f first cap =>
    split at h
    · rename_i f
      simp only [isSimple, Bool.and_eq_true] at hs
      refine ⟨_, _, w, S, rfl, hF, ?_, h⟩
      have hf : first = #[] := by simpa using hs.1
      subst hf
      refine .of_rep ?_
      have := RepL.fn (S := S) (w := w) f (cap.toList.map s.eval) (cap.toList.map a.eval) (by simp) (fun j x c hx hc => by
        simp only [List.getElem?_map, Option.map_eq_some_iff] at hx hc
        obtain ⟨p, hp, rfl⟩ := hx
        obtain ⟨q, hq, rfl⟩ := hc
        rw [hp] at hq; cases hq
        have hm : p ∈ cap.toList := List.mem_of_getElem? hp
        have := (Array.all_eq_true_iff_forall_mem.1 hs.2) p (by simpa using hm)
        exact plain1_rep (hF.eval p) this)
      have e : (cap.toList.map a.eval).toArray = cap.map a.eval := by apply Array.ext'; simp
      rw [e] at this
      simpa using this
    · exact absurd h (by simp)
  case slice t x lo hi mx =>
    have opt : ∀ y : Option Operand, OptR S w T s.M (y.map a.eval) (y.map s.eval) := by
      intro y
      cases y with
      | none => trivial
      | some y => exact hF.eval y
    refine wrap (sliceV_sound hE hF (hF.eval x) (opt lo) (opt hi) (opt mx) h (fun id hid ar hpl => ?_))
    simp [isSimple, hid, hpl] at hs
  case fieldAddr t x f => exact wrap (fieldAddrV_sound hE (hF.eval x) h)
  case field t x f => exact wrap (fieldV_sound hE (hF.eval x) h)
  case indexAddr t x i => exact wrap (indexAddrV_sound hE hF (hF.eval x) (hF.eval i) h)
  case index t x i => exact wrap (indexV_sound hE (hF.eval x) (hF.eval i) h)
  case extract x i => exact wrap (extract_sound h (hF.eval x))
  case call c =>
    obtain ⟨b, hb⟩ := hnc c rfl
    obtain ⟨callee, args, argTypes⟩ := c
    simp only at hb
    subst hb
    simp only at h
    split at h
    · rename_i x hargs
      split at h
      · rename_i t0 hts
        split at h
        · rename_i hlen
          have hargs' : args = #[x] := by apply Array.ext'; simpa using hargs
          have hts' : argTypes = #[t0] := by apply Array.ext'; simpa using hts
          subst hargs' hts'
          have ht : (∃ sb, s.eval x = .str sb) ∧ P.underlying t0 = some .string ∨ (∀ sb, s.eval x ≠ .str sb) ∧ ∃ e, P.underlying t0 = some (.slice e) := by
            unfold lenOK at hlen
            split at hlen
            · rename_i ti hti
              have hdesc := (hE.ty t0 ti hti).desc
              split at hlen
              · rename_i sb hd hev
                rw [hd] at hdesc
                exact .inl ⟨⟨sb, hev⟩, hdesc⟩
              · rename_i e o ar hd hev
                rw [hd] at hdesc
                exact .inr ⟨by rw [hev]; simp, e, hdesc⟩
              · rename_i e id hd hev
                rw [hd] at hdesc
                exact .inr ⟨by rw [hev]; simp, e, hdesc⟩
              · exact absurd hlen (by simp)
            · exact absurd hlen (by simp)
          obtain ⟨v, c, hr, hc⟩ := lenV_sound (P := P) (t := t0) (ty := ty) hF (hF.eval x) h ht
          exact ⟨v, c, w, S, by simp [execOp, resolve, invoke, builtin, hr], hF, hc⟩
        · exact absurd h (by simp)
      · exact absurd h (by simp)
    · rename_i x y hargs
      have hargs' : args = #[x, y] := by apply Array.ext'; simpa using hargs
      subst hargs'
      obtain ⟨v, c, hr, hc⟩ := minInt_sound (ty := ty) (ts := argTypes) (P := P) (hF.eval x) (hF.eval y) h
      exact ⟨v, c, w, S, by simp [execOp, resolve, invoke, builtin, hr], hF, hc⟩
    · rename_i x y hargs
      have hargs' : args = #[x, y] := by apply Array.ext'; simpa using hargs
      subst hargs'
      obtain ⟨v, c, hr, hc⟩ := maxInt_sound (ty := ty) (ts := argTypes) (P := P) (hF.eval x) (hF.eval y) h
      exact ⟨v, c, w, S, by simp [execOp, resolve, invoke, builtin, hr], hF, hc⟩
    · exact absurd h (by simp)
end
end Go.Proofs.Ytfkkigbbejhfbaa.Idl
