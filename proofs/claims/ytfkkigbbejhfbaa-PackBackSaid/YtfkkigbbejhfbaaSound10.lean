/- The operations on places: made, written, shared. -/
import Derived.Test.YtfkkigbbejhfbaaSound9
namespace Go.Proofs.Ytfkkigbbejhfbaa.Idl
open Go
variable {P : Program}
section
variable {F : Fx} {S S' : Nat → Prop} {own own' : Nat → Option Nat} {T T' : Nat → Value} {s : St} {a : Act} {w w' : World} {M : List V} {R : Type}

def HPost (F : Fx) (Kc : St → Option R) (r : R) (a' : Act) (w' : World) : Prop := ∃ S own T s, FR F S own T s a' w' ∧ Kc s = some r

theorem FR.put' (h : FR F S own T { s with M := M } a w) {v : Value} {c : V} (d : Option Tmp) (hc : RTV S w T M v c) : FR F S own T ({ s with M := M }.put d c) (a.put d v) w :=
  FR.put (s := { s with M := M }) h d hc

theorem layZero_sound : ∀ (l : List V) (M : List V) (own : Nat → Option Nat) (T : Nat → Value) (xs : List Value), FR F S own T { s with M := M } a w → xs.length = l.length → (∀ (j : Nat) x c, xs[j]? = some x → l[j]? = some c → ZeroL x c) →
    ∃ own' T', FR F S own' T' { s with M := (layZero M l).1 } a w ∧ Later S S w w T T' M (layZero M l).1 ∧ (∀ b, own' b = own b) ∧ (layZero M l).2.length = l.length ∧
      (∀ (j : Nat) x c, xs[j]? = some x → (layZero M l).2[j]? = some c → okCell c = true ∧ RT S w T' (layZero M l).1 x c)
  | [], M, own, T, xs, h, _, _ => ⟨own, T, h, .refl, fun _ => rfl, rfl, fun j x c _ hc => by simp [layZero] at hc⟩
  | c :: l, M, own, T, [], h, hl, _ => by simp at hl
  | c :: l, M, own, T, x :: xs, h, hl, hz => by
    have h0 := hz 0 x c rfl rfl
    have hz' : ∀ (j : Nat) x c, xs[j]? = some x → l[j]? = some c → ZeroL x c := fun j x c hx hc => hz (j + 1) x c hx hc
    have plain : (∀ o ar, c ≠ .sl o ar) → ∃ own' T', FR F S own' T' { s with M := (layZero M l).1 } a w ∧ Later S S w w T T' M (layZero M l).1 ∧ (∀ b, own' b = own b) ∧ (c :: (layZero M l).2).length = (c :: l).length ∧
      (∀ (j : Nat) y d, (x :: xs)[j]? = some y → (c :: (layZero M l).2)[j]? = some d → okCell d = true ∧ RT S w T' (layZero M l).1 y d) := by
      intro hn
      obtain ⟨own', T', f, L, ho, hlen, hr⟩ := layZero_sound l M own T xs h (by simpa using hl) hz'
      refine ⟨own', T', f, L, ho, by simp [hlen], fun j y d hy hd => ?_⟩
      cases j with
      | zero =>
        simp only [List.getElem?_cons_zero, Option.some.injEq] at hy hd
        subst hy hd
        refine ⟨?_, (zeroL_rt h0).2⟩
        cases c <;> first | rfl | exact h0.elim | exact absurd rfl (hn _ _)
      | succ j => exact hr j y d hy hd
    cases c with
    | sl o ar =>
      obtain ⟨_, hl0, hpos, hx⟩ := h0
      subst hx
      obtain ⟨own1, T1, f1, hT1, L1, ho1⟩ := FR.newNil (s := { s with M := M }) h ar hl0 hpos
      obtain ⟨own', T', f, L, ho, hlen, hr⟩ := layZero_sound l (M ++ [.sl true ar]) own1 T1 xs f1 (by simpa using hl) hz'
      refine ⟨own', T', f, L1.trans L, fun b => (ho b).trans (ho1 b), by simp [layZero, hlen], fun j y d hy hd => ?_⟩
      cases j with
      | zero =>
        simp only [layZero, List.getElem?_cons_zero, Option.some.injEq] at hy hd
        subst hy hd
        refine ⟨rfl, Nat.lt_of_lt_of_le (by simp) L.hM, ?_, rfl⟩
        rw [L.hT M.length (by simp)]
        exact hT1.symm
      | succ j => exact hr j y d hy (by simpa [layZero] using hd)
    | _ => exact plain (by simp)

/-- a new object -/
theorem FR.newObj (h : FR F S own T { s with M := M } a w) (cs : Array Value) (l : List V) (t : TypeId) (hl : cs.size = l.length) (hr : ∀ (j : Nat) x c, cs[j]? = some x → l[j]? = some c → okCell c = true ∧ RT S w T M x c) :
    ∃ own' T', FR F S own' T' { s with M := M ++ [.pt l] } a (w.alloc (.cells cs t)) ∧ RTV S (w.alloc (.cells cs t)) T' (M ++ [.pt l]) (.pointer (some ⟨w.heap.size, 0, none⟩)) (.pr M.length 0) := by
  obtain ⟨own', T', f, hT, _, L, _⟩ := FR.newPlace (s := { s with M := M }) (w' := w.alloc (.cells cs t)) h (.pointer (some ⟨w.heap.size, 0, none⟩)) (.pt l) (some w.heap.size)
    (fun b hb _ => heap_alloc_old w _ b hb) (by simp) ⟨rfl, rfl, rfl⟩ (fun b hb => by cases hb; exact ⟨by simp, fun h => absurd h (by omega)⟩)
    (fun own' T' ho hT _ L => ⟨w.heap.size, cs, t, hT, heap_alloc_new w _, hl, fun j x c hx hc => ⟨(hr j x c hx hc).1, (hr j x c hx hc).2.later L⟩, ho _ rfl⟩)
  exact ⟨own', T', f, show RT S (w.alloc (.cells cs t)) T' (M ++ [.pt l]) (.pointer (some ⟨w.heap.size, 0, none⟩)) (.pr M.length 0) from ⟨by simp, w.heap.size, hT, rfl⟩⟩

theorem cells_of {v : Value} {c : V} (h : RTV S w T M v c) (hok : c.cells.all okCell = true) : v.cells.size = c.cells.length ∧ (∀ (j : Nat) x d, v.cells[j]? = some x → c.cells[j]? = some d → okCell d = true ∧ RT S w T M x d) := by
  rw [List.all_eq_true] at hok
  have one : (∀ l, c ≠ .agg l) → c.cells = [c] → v.cells.size = c.cells.length ∧ (∀ (j : Nat) x d, v.cells[j]? = some x → c.cells[j]? = some d → okCell d = true ∧ RT S w T M x d) := by
    intro hn hc
    rw [hc] at hok ⊢
    have ho := hok c (by simp)
    have hrt : RT S w T M v c := by
      cases c with
      | agg l => exact absurd rfl (hn l)
      | tup l => simp [okCell] at ho
      | _ => exact h
    have h1 := rt_one hrt (by intro e; subst e; simp [okCell] at ho) (by intro id i off e; subst e; simp [okCell] at ho)
    rw [one_cells h1]
    refine ⟨rfl, fun j x d hx hd => ?_⟩
    cases j with
    | zero => simp at hx hd; subst hx hd; exact ⟨ho, hrt⟩
    | succ j => simp at hd
  cases c with
  | agg l =>
    obtain ⟨cs, rfl, hlen, hr⟩ := h
    refine ⟨by simpa [Value.cells, V.cells] using hlen, fun j x d hx hd => ?_⟩
    simp only [Value.cells, V.cells, List.getElem?_toArray] at hx hd
    exact ⟨hok d (List.mem_of_getElem? hd), (hr j x d hx hd).2⟩
  | _ => exact one (by simp) rfl

/-! ### stores -/
theorem setCells_heap : ∀ (vs : List Value) (b o : Nat) (w : World) (cur : Array Value) (e : TypeId) (fz : Nat × Nat), w.heap[b]? = some (.cells cur e fz) → o + vs.length ≤ cur.size →
    (w.setCells b o vs).heap[b]? = some (.cells (cur.toList.take o ++ vs ++ cur.toList.drop (o + vs.length)).toArray e fz)
  | [], b, o, w, cur, e, fz, h, _ => by
    simp [World.setCells, h]
  | v :: vs, b, o, w, cur, e, fz, h, hl => by
    simp only [World.setCells]
    have h1 : (w.setCell ⟨b, o, none⟩ v).heap[b]? = some (.cells (cur.setIfInBounds o v) e fz) := by
      simp only [World.setCell, Array.getElem?_modify, if_true, h, Option.map_some]
      rfl
    rw [setCells_heap vs b (o + 1) _ _ e fz h1 (by simp at hl ⊢; omega)]
    congr 2
    simp only [Array.toList_setIfInBounds, List.length_cons] at hl ⊢
    have hlt : o < cur.toList.length := by simp; omega
    rw [List.take_add_one, List.getElem?_set_self hlt, List.take_set_of_le (Nat.le_refl _), List.drop_set_of_lt (by omega)]
    simp
    congr 1
    omega
theorem setCells_other : ∀ (vs : List Value) (b o : Nat) (w : World) (k : Nat), k ≠ b → (w.setCells b o vs).heap[k]? = w.heap[k]?
  | [], _, _, _, _, _ => rfl
  | v :: vs, b, o, w, k, h => by
    simp only [World.setCells]
    rw [setCells_other vs b (o + 1) _ k h]
    simp only [World.setCell, Array.getElem?_modify]
    rw [if_neg (Ne.symm h)]
theorem setCells_same : ∀ (vs : List Value) (b o : Nat) (w : World), (w.setCells b o vs).heap.size = w.heap.size ∧ (w.setCells b o vs).os = w.os ∧ (w.setCells b o vs).tape = w.tape ∧ (w.setCells b o vs).output = w.output
  | [], _, _, _ => ⟨rfl, rfl, rfl, rfl⟩
  | v :: vs, b, o, w => by
    simp only [World.setCells]
    obtain ⟨h1, h2, h3, h4⟩ := setCells_same vs b (o + 1) (w.setCell ⟨b, o, none⟩ v)
    exact ⟨h1.trans (by simp [World.setCell]), h2, h3, h4⟩

theorem run_storeAt_ok {t : Nat} {ti : TI} (hT : TyOK P t ti) (b o : Nat) (v : Value) (hsz : v.cells.size = ti.size) {cur : Array Value} {e : TypeId} (hb : w.heap[b]? = some (.cells cur e (0, 0))) (ho : o + v.cells.size ≤ cur.size)
    (h1 : ∀ u ∈ v.cells.toList, u.oneCell' = true) : (Instr.storeAt t (.pointer (some ⟨b, o, none⟩)) v).run P w = .ok () (w.setCells b o v.cells.toList) := by
  have hst := run_storeCells_cells (P := P) b o v.cells.toList 0 w (fun j hj => by
      have : j < v.cells.size := by simpa using hj
      simp only [World.cell?, hb, Nat.add_zero]
      simp [show o + j < cur.size by omega]) (fun j hj => by simp [World.frozen?, hb]) h1
  simp only [Nat.add_zero] at hst
  simp only [Instr.storeAt, Instr.sureAddr, storeVar, Sem.run_bind, Sem.run_pure, Result.andThen_ok, hT.sizeOf, hsz, ne_eq, not_true_eq_false, if_false, hst]

theorem FR.storeObj (h : FR F S own T { s with M := M } a w) {id b : Nat} {cs : Array Value} {e : TypeId} {l : List V} (hpl : pl M id = .pt l) (hT : T id = .pointer (some ⟨b, 0, none⟩)) (hb : w.heap[b]? = some (.cells cs e (0, 0))) (hl : cs.size = l.length)
    (hr : ∀ (j : Nat) x c, cs[j]? = some x → l[j]? = some c → okCell c = true ∧ RT S w T M x c) (hob : own b = some id) (off : Nat) (vs : List Value) (ds : List V) (hlen : vs.length = ds.length) (hoff : off + ds.length ≤ l.length)
    (hv : ∀ (j : Nat) x c, vs[j]? = some x → ds[j]? = some c → okCell c = true ∧ RT S w T M x c) :
    FR F S own T { s with M := M.set id (.pt (l.take off ++ ds ++ l.drop (off + ds.length))) } a (w.setCells b off vs) := by
  have hlt := pl_lt hpl (by simp)
  obtain ⟨hs1, hs2, hs3, hs4⟩ := setCells_same vs b off w
  obtain ⟨hbl, hnS, hnK, _⟩ := h.own b id hob
  have hoth : ∀ k, k ≠ b → (w.setCells b off vs).heap[k]? = w.heap[k]? := fun k hk => setCells_other vs b off w k hk
  have L : Later S S w (w.setCells b off vs) T T M (M.set id (.pt (l.take off ++ ds ++ l.drop (off + ds.length)))) := ⟨fun _ h => h, fun k hk => hoth k (fun e => hnS (e ▸ hk)), fun _ _ => rfl, by simp, fun j o ar hj hp => by
    rw [pl_set] at hp
    split at hp
    · cases hp
    · exact ⟨o, ar, hp, rfl, rfl⟩⟩
  have hrel : CellsRel S w T M cs.toList l := ⟨by simpa using hl, fun j x c hx hc => by
    have := hr j x c (by rw [← Array.getElem?_toList]; exact hx) hc
    exact ⟨by intro e; subst e; simp [okCell] at this, this.2⟩⟩
  refine FR.change (s := { s with M := M }) h L (fun j c hc => ?_) (fun k j hk => ?_) (fun k hk => by rw [hs1]; exact h.slt k hk) (fun k hk => hoth k (fun e => hnK (e ▸ hk))) (by rw [hs1]; exact Nat.le_refl _) ⟨hs2, hs3, hs4⟩ (fun k hk => .inl hk)
  · by_cases hj : j = id
    · subst hj
      rw [List.getElem?_set_self hlt] at hc
      cases hc
      refine ⟨b, _, e, hT, setCells_heap vs b off w cs e (0, 0) hb (by omega), by simp; omega, fun k x c hx hc => ?_, hob⟩
      rw [List.getElem?_toArray] at hx
      have e1 : (cs.toList.take off ++ vs ++ cs.toList.drop (off + vs.length)) = (cs.toList.take off ++ vs ++ cs.toList.drop (off + vs.length)) := rfl
      have hok : okCell c = true := by
        have hm := List.mem_of_getElem? hc
        rw [List.mem_append, List.mem_append] at hm
        rcases hm with (hm | hm) | hm
        · obtain ⟨i, hi, rfl⟩ := List.getElem_of_mem (List.mem_of_mem_take hm)
          exact (hr i (cs[i]'(by omega)) _ (Array.getElem?_eq_getElem (by omega)) (List.getElem?_eq_getElem hi)).1
        · obtain ⟨i, hi, rfl⟩ := List.getElem_of_mem hm
          exact (hv i (vs[i]'(by omega)) _ (List.getElem?_eq_getElem (by omega)) (List.getElem?_eq_getElem hi)).1
        · obtain ⟨i, hi, rfl⟩ := List.getElem_of_mem (List.mem_of_mem_drop hm)
          exact (hr i (cs[i]'(by omega)) _ (Array.getElem?_eq_getElem (by omega)) (List.getElem?_eq_getElem hi)).1
      have hrel2 : CellsRel S w T M vs ds := ⟨hlen, fun j x c hx hc => by
        have := hv j x c hx hc
        exact ⟨by intro e; subst e; simp [okCell] at this, this.2⟩⟩
      have := hrel.splice hrel2 off hoff
      exact ⟨hok, ((this.2 k x c hx hc).2).later L⟩
    · rw [List.getElem?_set_ne (Ne.symm hj)] at hc
      refine (h.places j c hc).later L (List.getElem?_eq_some_iff.1 hc).1 (fun k hk => ⟨hk, hoth k (fun e => ?_)⟩)
      subst e
      rw [hob] at hk
      cases hk
      exact hj rfl
  · obtain ⟨h1, h2, h3, h4⟩ := h.own k j hk
    exact ⟨by rw [hs1]; exact h1, h2, h3, by simpa using h4⟩

theorem set_eq {ar : Arr V} {i off : Nat} {c : V} {K : Arr V → Option R} {r : R} (h : ar.set i off c K = some r) :
    ∃ ar', K ar' = some r ∧ off = 0 ∧ ar.esz = 1 ∧ ar'.esz = 1 ∧ ar'.len = ar.len ∧ ar'.toL = ar.toL.set i c := by
  unfold Arr.set at h
  split at h
  · split at h
    · rename_i hk; obtain ⟨rfl, h0⟩ := hk; exact ⟨_, h, h0, rfl, rfl, by simp [Arr.len], by simp [Arr.toL, List.map_set]⟩
    · exact absurd h (by simp)
  · split at h
    · rename_i h0; exact ⟨_, h, h0, rfl, rfl, by simp [Arr.len], by simp [Arr.toL, List.map_set]⟩
    · exact absurd h (by simp)
  · split at h
    · rename_i h0; exact ⟨_, h, h0, rfl, rfl, by simp [Arr.len], by simp [Arr.toL, List.map_set]⟩
    · exact absurd h (by simp)
  · split at h
    · rename_i h0; obtain ⟨rfl, h0⟩ := h0; exact ⟨_, h, h0, rfl, rfl, by simp [Arr.len], by simp [Arr.toL]⟩
    · exact absurd h (by simp)
  · exact absurd h (by simp)

theorem ownS_set {v : Value} {ar ar' : Arr V} {g len cap : Nat} (h : OwnS S w v ar) (hv : v = .slice (some ⟨g, 0, none⟩) len cap) {i : Nat} {x : Value} {c : V} (hx : RepL S w x c) (h1 : ar.esz = 1) (h2 : ar'.esz = 1) (h3 : ar'.len = ar.len) (h4 : ar'.toL = ar.toL.set i c) (hg : ¬ S g) :
    OwnS S (w.setCell ⟨g, i, none⟩ x) v ar' := by
  obtain ⟨hp, ⟨e, xs, hown, hr⟩, hz⟩ := h
  have hlc : len = ar.len := by
    rcases hown.2 with ⟨h0, _⟩ | ⟨g', cap', cur, h0, _⟩
    · rw [hv] at h0; cases h0
    · rw [hv] at h0; cases h0; rfl
  subst hlc
  rw [hv] at hown
  have hst := hown.stored i x
  have hcl : c.cells = [c] := hx.cells.2
  have hS : ∀ b, S b → (w.setCell ⟨g, i, none⟩ x).heap[b]? = w.heap[b]? := fun b hb => heap_setCell_other w ⟨g, i, none⟩ b x (fun e => by
    have e' : b = g := e
    exact hg (e' ▸ hb))
  refine ⟨by omega, ⟨e, xs.set i x, by rw [h2, h3, hv, ← h1]; exact hst.1, fun k u j d hk hj => ?_⟩, fun k u hk => ?_⟩
  · rw [h4, List.getElem?_set] at hk
    rw [h2]
    split at hk
    · rename_i hik
      subst hik
      split at hk
      · rename_i hlt
        cases hk
        rw [hcl] at hj
        cases j with
        | zero =>
          simp at hj; subst hj
          refine ⟨x, ?_, hx.mono (fun _ h => h) hS⟩
          have hl := hown.1
          rw [Arr.length_toL] at hlt
          simp only [Nat.mul_one, Nat.add_zero]
          rw [List.getElem?_set_self (by rw [hl, h1]; omega)]
        | succ j => simp at hj
      · exact absurd hk (by simp)
    · rename_i hik
      obtain ⟨q, q1, q2⟩ := hr k u j d hk hj
      have hj0 : j = 0 := by
        have := (List.getElem?_eq_some_iff.1 hj).1
        rw [hz k u hk, h1] at this
        omega
      subst hj0
      rw [h1] at q1
      refine ⟨q, ?_, q2.mono (fun _ h => h) hS⟩
      rw [List.getElem?_set_ne (by omega)]
      exact q1
  · rw [h4, List.getElem?_set] at hk
    rw [h2]
    split at hk
    · split at hk
      · cases hk; rw [hcl]; rfl
      · exact absurd hk (by simp)
    · rw [← h1]; exact hz k u hk
end
end Go.Proofs.Ytfkkigbbejhfbaa.Idl
