/- The operations on places, all of them but calls: put together. -/
import Derived.Test.YtfkkigbbejhfbaaSound10
import Derived.Great.BuildSlice
namespace Go.Proofs.Ytfkkigbbejhfbaa.Idl
open Go
variable {P : Program}
section
variable {F : Fx} {S S' : Nat → Prop} {own own' : Nat → Option Nat} {T T' : Nat → Value} {s : St} {a : Act} {w w' : World} {M : List V} {R : Type}

theorem FR.storeElem (h : FR F S own T { s with M := M } a w) {id g len cap i : Nat} {ar ar' : Arr V} (hpl : pl M id = .sl true ar) (hT : T id = .slice (some ⟨g, 0, none⟩) len cap) {x : Value} {c : V} (hx : RepL S w x c)
    (h1 : ar.esz = 1) (h2 : ar'.esz = 1) (h3 : ar'.len = ar.len) (h4 : ar'.toL = ar.toL.set i c) : FR F S own T { s with M := M.set id (.sl true ar') } a (w.setCell ⟨g, i, none⟩ x) := by
  have hlt := pl_lt hpl (by simp)
  obtain ⟨hO, hob⟩ := FR.place (s := { s with M := M }) h hpl (by simp)
  have hog : own g = some id := hob g (by rw [hT]; rfl)
  obtain ⟨hbl, hnS, hnK, _⟩ := h.own g id hog
  have hoth : ∀ k, k ≠ g → (w.setCell ⟨g, i, none⟩ x).heap[k]? = w.heap[k]? := fun k hk => heap_setCell_other w ⟨g, i, none⟩ k x hk
  have hsz : (w.setCell ⟨g, i, none⟩ x).heap.size = w.heap.size := by simp [World.setCell]
  have L : Later S S w (w.setCell ⟨g, i, none⟩ x) T T M (M.set id (.sl true ar')) := ⟨fun _ h => h, fun k hk => hoth k (fun e => hnS (e ▸ hk)), fun _ _ => rfl, by simp, fun j o br hj hp => by
    rw [pl_set] at hp
    split at hp
    · rename_i hji
      cases hp
      exact ⟨true, ar, by rw [hji.1]; exact hpl, by omega, by omega⟩
    · exact ⟨o, br, hp, rfl, rfl⟩⟩
  refine FR.change (s := { s with M := M }) h L (fun j c' hc => ?_) (fun k j hk => ?_) (fun k hk => by rw [hsz]; exact h.slt k hk) (fun k hk => hoth k (fun e => hnK (e ▸ hk))) (by rw [hsz]; exact Nat.le_refl _) ⟨rfl, rfl, rfl⟩ (fun k hk => .inl hk)
  · by_cases hj : j = id
    · subst hj
      rw [List.getElem?_set_self hlt] at hc
      cases hc
      exact ⟨ownS_set hO hT hx h1 h2 h3 h4 hnS, hob⟩
    · rw [List.getElem?_set_ne (Ne.symm hj)] at hc
      refine (h.places j c' hc).later L (List.getElem?_eq_some_iff.1 hc).1 (fun k hk => ⟨hk, hoth k (fun e => ?_)⟩)
      subst e
      rw [hog] at hk
      cases hk
      exact hj rfl
  · obtain ⟨q1, q2, q3, q4⟩ := h.own k j hk
    exact ⟨by rw [hsz]; exact q1, q2, q3, by simpa using q4⟩

/-! ### slices made -/
theorem FR.newSlice (h : FR F S own T { s with M := M } a w) {w' : World} (v : Value) (ar : Arr V) (hsame : ∀ b, b < w.heap.size → w'.heap[b]? = w.heap[b]?) (hsz : w.heap.size ≤ w'.heap.size) (hout : w'.os = w.os ∧ w'.tape = w.tape ∧ w'.output = w.output)
    (hnew : ∀ b, v.ownBlock = some b → w.heap.size ≤ b ∧ b < w'.heap.size) (hone : v.oneCell' = true) (hO : OwnS S w' v ar) :
    ∃ own' T', FR F S own' T' { s with M := M ++ [.sl true ar] } a w' ∧ RTV S w' T' (M ++ [.sl true ar]) v (.rs M.length) := by
  obtain ⟨own', T', f, hT, _, _, _⟩ := FR.newPlace (s := { s with M := M }) (w' := w') h v (.sl true ar) v.ownBlock (fun b hb _ => hsame b hb) hsz hout
    (fun b hb => ⟨(hnew b hb).2, fun hlt => absurd hlt (by have := (hnew b hb).1; omega)⟩)
    (fun own' T' ho hT _ _ => ⟨by rw [hT]; exact hO, fun b hb => ho b (by rw [hT] at hb; exact hb)⟩)
  exact ⟨own', T', f, show RT S w' T' (M ++ [.sl true ar]) v (.rs M.length) from ⟨by simp, hT.symm, hone⟩⟩

theorem ofParts_eq {te : TI} : ∀ (l : List (Nat × V)) (i : Nat) {K : List V → Option R} {r : R}, ofParts te l i K = some r → K (l.map (·.2)) = some r ∧ l.map (·.1) = List.range' i l.length ∧ ∀ p ∈ l, p.2.cells.length = te.size
  | [], i, K, r, h => ⟨h, rfl, fun p hp => by simp at hp⟩
  | (j, v) :: l, i, K, r, h => by
    simp only [ofParts] at h
    split at h
    · rename_i hc
      obtain ⟨h1, h2, h3⟩ := ofParts_eq l (i + 1) h
      refine ⟨h1, by simp [h2, hc.1, List.range'_succ], fun p hp => ?_⟩
      rcases List.mem_cons.1 hp with rfl | hp
      · exact hc.2
      · exact h3 p hp
    · exact absurd h (by simp)
theorem asInts_eq {k : IntKind} : ∀ (vs : List V) {K : List Int → Option R} {r : R}, asInts k vs K = some r → ∃ l, K l = some r ∧ vs = l.map (.int k)
  | [], K, r, h => ⟨[], h, rfl⟩
  | v :: vs, K, r, h => by
    cases v with
    | int k' n =>
      simp only [asInts] at h
      split at h
      · rename_i hk
        subst hk
        obtain ⟨l, h1, h2⟩ := asInts_eq vs h
        exact ⟨n :: l, h1, by simp [h2]⟩
      · exact absurd h (by simp)
    | _ => simp [asInts] at h
theorem asBools_eq : ∀ (vs : List V) {K : List Bool → Option R} {r : R}, asBools vs K = some r → ∃ l, K l = some r ∧ vs = l.map .bool
  | [], K, r, h => ⟨[], h, rfl⟩
  | v :: vs, K, r, h => by
    cases v with
    | bool n =>
      simp only [asBools] at h
      obtain ⟨l, h1, h2⟩ := asBools_eq vs h
      exact ⟨n :: l, h1, by simp [h2]⟩
    | _ => simp [asBools] at h
theorem asStrs_eq : ∀ (vs : List V) {K : List ByteArray → Option R} {r : R}, asStrs vs K = some r → ∃ l, K l = some r ∧ vs = l.map .str
  | [], K, r, h => ⟨[], h, rfl⟩
  | v :: vs, K, r, h => by
    cases v with
    | str n =>
      simp only [asStrs] at h
      obtain ⟨l, h1, h2⟩ := asStrs_eq vs h
      exact ⟨n :: l, h1, by simp [h2]⟩
    | _ => simp [asStrs] at h
theorem ofL_eq {e : EK} {vs : List V} {K : Arr V → Option R} {r : R} (h : ofL e vs K = some r) : ∃ ar, K ar = some r ∧ ar.toL = vs ∧ ar.esz = e.nil.esz := by
  cases e with
  | ints k => obtain ⟨l, h1, h2⟩ := asInts_eq vs h; exact ⟨_, h1, h2.symm, rfl⟩
  | bools => obtain ⟨l, h1, h2⟩ := asBools_eq vs h; exact ⟨_, h1, h2.symm, rfl⟩
  | strs => obtain ⟨l, h1, h2⟩ := asStrs_eq vs h; exact ⟨_, h1, h2.symm, rfl⟩
  | vals n => exact ⟨_, h, rfl, rfl⟩

theorem fill_seq (sz : Nat) : ∀ (vs : List Value) (i : Nat) (cells : List Value), (∀ v ∈ vs, v.cells.size = sz) → cells.length = (i + vs.length) * sz →
    Instr.fill (fun i => some (i * sz, sz)) cells.toArray ((List.range' i vs.length).zip vs) = some (cells.take (i * sz) ++ vs.flatMap (·.cells.toList)).toArray
  | [], i, cells, _, hl => by
    simp only [List.length_nil, Nat.add_zero] at hl
    simp [Instr.fill, ← hl]
  | v :: vs, i, cells, hv, hl => by
    have h1 : v.cells.size = sz := hv v (by simp)
    have hmul : (i + (v :: vs).length) * sz = i * sz + sz + vs.length * sz := by simp only [List.length_cons]; rw [← Nat.succ_mul, ← Nat.add_mul]; congr 1; omega
    rw [hmul] at hl
    simp only [List.length_cons, List.range'_succ, List.zip_cons_cons]
    rw [fill_one _ cells.toArray i (i * sz) sz v _ rfl h1 (by simp; omega)]
    have hlen : v.cells.toList.length = sz := by simpa using h1
    rw [fill_seq sz vs (i + 1) _ (fun u hu => hv u (by simp [hu])) (by
      have : (i + 1 + vs.length) * sz = i * sz + sz + vs.length * sz := by rw [← Nat.succ_mul, ← Nat.add_mul]
      rw [this]
      simp only [List.length_append, List.length_take, List.length_drop, hlen]
      omega)]
    congr 2
    have e1 : (i + 1) * sz = i * sz + sz := Nat.succ_mul i sz
    rw [e1, List.take_append_of_le_length (by simp only [List.length_append, List.length_take, hlen]; omega)]
    rw [List.take_of_length_le (by simp only [List.length_append, List.length_take, hlen]; omega)]
    simp

theorem flatMap_get (sz : Nat) : ∀ (vs : List Value) (i j : Nat), (∀ v ∈ vs, v.cells.size = sz) → j < sz → (vs.flatMap (·.cells.toList))[i * sz + j]? = (vs[i]?).bind fun v => v.cells[j]?
  | [], i, j, _, _ => by simp
  | v :: vs, i, j, hv, hj => by
    have h1 : v.cells.toList.length = sz := by simpa using hv v (by simp)
    cases i with
    | zero =>
      simp only [List.flatMap_cons, Nat.zero_mul, Nat.zero_add, List.getElem?_cons_zero, Option.bind_some]
      rw [List.getElem?_append_left (by omega), Array.getElem?_toList]
    | succ i =>
      simp only [List.flatMap_cons, List.getElem?_cons_succ]
      rw [List.getElem?_append_right (by rw [h1, Nat.succ_mul]; omega), ← flatMap_get sz vs i j (fun u hu => hv u (by simp [hu])) hj]
      congr 1
      rw [h1, Nat.succ_mul]
      omega

theorem shareAll_sound : ∀ (l : List V) (M : List V) (S : Nat → Prop) (own : Nat → Option Nat) (xs : List Value) (Kc : List V → List V → Option R) (r : R), FR F S own T { s with M := M } a w → xs.length = l.length →
    (∀ (j : Nat) x c, xs[j]? = some x → l[j]? = some c → RTV S w T M x c) → shareAll M l Kc = some r →
    ∃ S' own' M' l', FR F S' own' T { s with M := M' } a w ∧ Sunk F S S' own own' w T M M' ∧ l'.length = l.length ∧ (∀ (j : Nat) x c, xs[j]? = some x → l'[j]? = some c → RepA S' w x c) ∧ Kc M' l' = some r
  | [], M, S, own, xs, Kc, r, h, _, _, hk => ⟨S, own, M, [], h, .refl, rfl, fun j x c _ hc => by simp at hc, hk⟩
  | c :: l, M, S, own, [], Kc, r, h, hl, _, hk => by simp at hl
  | c :: l, M, S, own, x :: xs, Kc, r, h, hl, hrt, hk => by
    simp only [shareAll] at hk
    obtain ⟨S1, own1, M1, c1, h1, k1, r1, hk1⟩ := share_sound (s := { s with M := M }) h (hrt 0 x c rfl rfl) hk
    obtain ⟨S2, own2, M2, l2, h2, k2, e2, r2, hk2⟩ := shareAll_sound l M1 S1 own1 xs _ r h1 (by simpa using hl) (fun j x c hx hc => (hrt (j + 1) x c hx hc).later k1.later) hk1
    refine ⟨S2, own2, M2, c1 :: l2, h2, k1.trans k2, by simp [e2], fun j y d hy hd => ?_, hk2⟩
    cases j with
    | zero => simp at hy hd; subst hy hd; exact r1.mono k2.later.hS (fun _ _ => rfl)
    | succ j => exact r2 j y d hy hd

theorem repA_cells {v : Value} {c : V} (h : RepA S w v c) : v.cells.size = c.cells.length ∧ ∀ (j : Nat) x d, v.cells[j]? = some x → c.cells[j]? = some d → RepL S w x d := by
  have one : RepL S w v c → v.cells.size = c.cells.length ∧ ∀ (j : Nat) x d, v.cells[j]? = some x → c.cells[j]? = some d → RepL S w x d := by
    intro h
    rw [h.cells.1, h.cells.2]
    refine ⟨rfl, fun j x d hx hd => ?_⟩
    cases j with
    | zero => simp at hx hd; subst hx hd; exact h
    | succ j => simp at hd
  cases c with
  | agg l =>
    obtain ⟨cs, rfl, hlen, hr⟩ := h
    refine ⟨by simpa [Value.cells, V.cells] using hlen, fun j x d hx hd => ?_⟩
    simp only [Value.cells, V.cells, List.getElem?_toArray] at hx hd
    exact hr j x d hx hd
  | _ => exact one h

theorem buildSlice_sound {E : Env} (hE : EnvOK P E) (h : FR F S own T s a w) {t n : Nat} {te : TI} (hte : elemTI E t = some te) {parts : Array (Nat × Operand)} {Kc : List V → V → Option R} {r : R}
    (hk : (shareAll s.M (parts.toList.map fun p => s.eval p.2) fun M vs =>
          ofParts te ((parts.toList.map (·.1)).zip vs) 0 fun vs => if vs.length = n ∧ n * te.size ≤ 65536 then ofL te.ek vs fun a => Kc (M ++ [V.sl true a]) (.rs M.length) else none) = some r) :
    ∃ v c w' S' own' T' M', (Instr.buildSlice t n (parts.map fun (i, x) => (i, a.eval x))).run P w = .ok v w' ∧ FR F S' own' T' { s with M := M' } a w' ∧ RTV S' w' T' M' v c ∧ Kc M' c = some r := by
  obtain ⟨e, hu, _, hT⟩ := elemTI_ok hE hte
  obtain ⟨i, z, hi, hsz, hbb, hzz, hzc, _, _⟩ := hT.info
  obtain ⟨S1, own1, M1, l1, f1, k1, hlen1, hrep, hk1⟩ := shareAll_sound (s := s) (parts.toList.map fun p => s.eval p.2) s.M S own (parts.toList.map fun p => a.eval p.2) _ r h (by simp)
    (fun j x c hx hc => by
      simp only [List.getElem?_map, Option.map_eq_some_iff] at hx hc
      obtain ⟨p, hp, rfl⟩ := hx
      obtain ⟨q, hq, rfl⟩ := hc
      rw [hp] at hq; cases hq
      exact h.eval _) hk
  obtain ⟨hk2, hidx, hcells⟩ := ofParts_eq _ _ hk1
  have hll : l1.length = parts.toList.length := by simpa using hlen1
  have hz2 : ((parts.toList.map (·.1)).zip l1).map (·.2) = l1 := by rw [List.map_snd_zip]; simp [hll]
  have hz1 : ((parts.toList.map (·.1)).zip l1).map (·.1) = parts.toList.map (·.1) := by rw [List.map_fst_zip]; simp [hll]
  rw [hz2] at hk2
  rw [hz1] at hidx
  have hzl : ((parts.toList.map (·.1)).zip l1).length = l1.length := by simp [hll]
  rw [hzl] at hidx
  split at hk2
  · rename_i hn
    obtain ⟨hn, hsmall⟩ := hn
    have hn65 : n ≤ 65536 := by
      have := Nat.le_mul_of_pos_right n hT.pos
      omega
    obtain ⟨ar, hk3, har, hez⟩ := ofL_eq hk2
    have hesz : ar.esz = te.size := by rw [hez]; exact hT.esz
    let xs := parts.toList.map fun p => a.eval p.2
    have hxl : xs.length = n := by simp [xs, ← hn, hll]
    have hcl : ∀ (j : Nat) c, l1[j]? = some c → c.cells.length = te.size := by
      intro j c hc
      have hm : c ∈ ((parts.toList.map (·.1)).zip l1).map (·.2) := by rw [hz2]; exact List.mem_of_getElem? hc
      obtain ⟨p, hp, rfl⟩ := List.mem_map.1 hm
      exact hcells p hp
    have hvs : ∀ v ∈ xs, v.cells.size = te.size := by
      intro v hv
      obtain ⟨j, hj, rfl⟩ := List.getElem_of_mem hv
      have hjl : j < l1.length := by omega
      have := repA_cells (hrep j xs[j] l1[j] (List.getElem?_eq_getElem hj) (List.getElem?_eq_getElem hjl))
      rw [this.1]
      exact hcl j _ (List.getElem?_eq_getElem hjl)
    let cells := xs.flatMap (·.cells.toList)
    have hfill : ∀ cs0 : List Value, cs0.length = n * te.size → Instr.fill (fun i => some (i * te.size, te.size)) cs0.toArray ((parts.map fun (x : Nat × Operand) => (x.1, a.eval x.2)).toList) = some cells.toArray := by
      intro cs0 h0
      have := fill_seq te.size xs 0 cs0 hvs (by rw [Nat.zero_add, hxl]; exact h0)
      simp only [Nat.zero_mul, List.take_zero, List.nil_append] at this
      rw [← this]
      congr 1
      have e1 : (parts.map fun (x : Nat × Operand) => (x.1, a.eval x.2)).toList = (parts.toList.map (·.1)).zip xs := by
        simp only [Array.toList_map, xs]
        rw [List.zip_map', ]
      rw [e1, hidx]
      congr 2
      omega
    have hclen : cells.length = n * te.size := by
      have : ∀ l : List Value, (∀ v ∈ l, v.cells.size = te.size) → (l.flatMap (·.cells.toList)).length = l.length * te.size := by
        intro l hl
        induction l with
        | nil => simp
        | cons v l ih =>
          simp only [List.flatMap_cons, List.length_append, List.length_cons, Nat.succ_mul]
          rw [ih (fun u hu => hl u (by simp [hu]))]
          have := hl v (by simp)
          simp only [Array.length_toList, this]
          omega
      rw [this xs hvs, hxl]
    have hrun : (Instr.buildSlice t n (parts.map fun (i, x) => (i, a.eval x))).run P w = .ok (.slice (some ⟨w.heap.size, 0, none⟩) n n) (w.alloc (.cells cells.toArray e)) := by
      have hsm : ¬ n * te.size > 2 ^ 24 := by omega
      by_cases h0 : n * te.size = 0
      · have hf := hfill [] (by simp [h0])
        have hf' : Instr.fill (fun i => some (i * te.size, te.size)) #[] (List.map (fun x => (x.fst, a.eval x.snd)) parts.toList) = some cells.toArray := by simpa using hf
        simp only [Instr.buildSlice, Sem.run_bind, run_underlying hu, Result.andThen_ok, hT.sizeOf, h0, if_true]
        simp [hf', newRow, show Array.range 0 = #[] from rfl]
      · have hf := hfill ((List.range (n * te.size)).map fun k => z.cells[k % z.cells.size]!) (by simp)
        refine run_buildSlice w t e n _ cells.toArray i z hu hi hzz (by rw [hsz]; exact hsm) (by rw [hsz]; exact h0) ?_
        rw [hsz, ← hf]
        congr 1
        apply Array.ext'
        simp
    have hO : OwnS S1 (w.alloc (.cells cells.toArray e)) (.slice (some ⟨w.heap.size, 0, none⟩) n n) ar := by
      refine ⟨by rw [hesz]; exact hT.pos, ⟨e, cells, ⟨by rw [hclen, ← Arr.length_toL, har, hn, hesz], .inr ⟨w.heap.size, n, cells.toArray, by rw [← Arr.length_toL, har, hn], Nat.zero_le _, heap_alloc_new w _, by rw [← Arr.length_toL, har, hn]; exact Nat.le_refl _, by unfold maxLen; omega, by simp [hclen, hesz],
          by rw [← Arr.length_toL, har, hn, hesz, ← hclen]; simp⟩⟩,
        fun i u j c hi hj => ?_⟩, fun i u hi => by rw [har] at hi; rw [hesz]; exact hcl i u hi⟩
      rw [har] at hi
      have hil := (List.getElem?_eq_some_iff.1 hi).1
      have hixs : i < xs.length := by omega
      have hjl : j < te.size := by rw [← hcl i u hi]; exact (List.getElem?_eq_some_iff.1 hj).1
      have hra := repA_cells (hrep i xs[i] u (List.getElem?_eq_getElem hixs) hi)
      have hjs : j < xs[i].cells.size := by rw [hvs _ (List.getElem_mem hixs)]; exact hjl
      refine ⟨xs[i].cells[j], ?_, ?_⟩
      · rw [hesz]
        have := flatMap_get te.size xs i j hvs hjl
        rw [List.getElem?_eq_getElem hixs] at this
        simp only [Option.bind_some, Array.getElem?_eq_getElem hjs] at this
        exact this
      · have := hra.2 j _ c (Array.getElem?_eq_getElem hjs) hj
        exact this.mono (fun _ h => h) (fun b hb => heap_alloc_old w _ b (f1.slt b hb))
    obtain ⟨own2, T2, f2, hr2⟩ := FR.newSlice (s := s) f1 (w' := w.alloc (.cells cells.toArray e)) (.slice (some ⟨w.heap.size, 0, none⟩) n n) ar (fun b hb => heap_alloc_old w _ b hb) (by simp) ⟨rfl, rfl, rfl⟩
      (fun b hb => by simp [Value.ownBlock] at hb; subst hb; simp) rfl hO
    exact ⟨_, _, _, S1, own2, T2, _, hrun, f2, hr2, hk3⟩
  · exact absurd hk2 (by simp)
end
end Go.Proofs.Ytfkkigbbejhfbaa.Idl
