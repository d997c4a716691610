/- The simple operations that read memory. -/
import Derived.Test.YtfkkigbbejhfbaaSound2
namespace Go.Proofs.Ytfkkigbbejhfbaa.Idl
open Go
variable {P : Program}
section
variable {F : Fx} {S : Nat → Prop} {own : Nat → Option Nat} {T : Nat → Value} {s : St} {a : Act} {w : World} {M : List V} {R : Type}

/-! ### shapes -/
theorem asInt_eq {k : IntKind} {v : V} {K : Int → Option R} {r : R} (h : v.asInt k K = some r) : ∃ n, v = .int k n ∧ K n = some r := by
  unfold V.asInt at h
  split at h
  · split at h
    · rename_i hk; subst hk; exact ⟨_, rfl, h⟩
    · exact absurd h (by simp)
  · exact absurd h (by simp)
theorem asBool_eq {v : V} {K : Bool → Option R} {r : R} (h : v.asBool K = some r) : ∃ n, v = .bool n ∧ K n = some r := by
  unfold V.asBool at h
  split at h
  · exact ⟨_, rfl, h⟩
  · exact absurd h (by simp)
theorem asStr_eq {v : V} {K : ByteArray → Option R} {r : R} (h : v.asStr K = some r) : ∃ n, v = .str n ∧ K n = some r := by
  unfold V.asStr at h
  split at h
  · exact ⟨_, rfl, h⟩
  · exact absurd h (by simp)
theorem as_eq {a : Arr V} {e : EK} {K : Arr V → Option R} {r : R} (h : a.as e K = some r) : K a = some r := by
  unfold Arr.as at h
  split at h
  · split at h
    · rename_i hk; subst hk; exact h
    · exact absurd h (by simp)
  · exact h
  · exact h
  · split at h
    · rename_i hk; subst hk; exact h
    · exact absurd h (by simp)
  · exact absurd h (by simp)
theorem asSl_eq {o : Bool} {e : EK} {v : V} {K : Arr V → Option R} {r : R} (h : v.asSl o e K = some r) : ∃ a, v = .sl o a ∧ K a = some r := by
  unfold V.asSl at h
  split at h
  · split at h
    · rename_i hk; subst hk; exact ⟨_, rfl, as_eq h⟩
    · exact absurd h (by simp)
  · exact absurd h (by simp)
theorem SL.chk_eq {l : SL} {v : V} {K : V → Option R} {r : R} (h : l.chk v K = some r) : K v = some r := by
  cases l with
  | any => exact h
  | int k => obtain ⟨n, rfl, h'⟩ := asInt_eq h; exact h'
  | bool => obtain ⟨n, rfl, h'⟩ := asBool_eq h; exact h'
  | str => obtain ⟨n, rfl, h'⟩ := asStr_eq h; exact h'
  | sl o e => obtain ⟨n, rfl, h'⟩ := asSl_eq h; exact h'
theorem chkL_eq : ∀ {l : List SL} {vs : List V} {K : List V → Option R} {r : R}, chkL l vs K = some r → K vs = some r
  | [], [], _, _, h => h
  | [], _ :: _, _, _, h => by simp [chkL, seeCons, seeNil] at h
  | _ :: _, [], _, _, h => by simp [chkL, seeCons, seeNil] at h
  | l :: ls, v :: vs, K, r, h => by
    simp only [chkL, seeCons, seeNil] at h
    have h2 := SL.chk_eq h
    exact chkL_eq (l := ls) (K := fun vs' => K (v :: vs')) h2
theorem S1.chk_eq {l : S1} {v : V} {K : V → Option R} {r : R} (h : l.chk v K = some r) : K v = some r := by
  cases l with
  | leaf s => exact SL.chk_eq h
  | agg l =>
    simp only [S1.chk, V.asAgg] at h
    split at h
    · exact chkL_eq h
    · exact absurd h (by simp)
  | pt l =>
    simp only [S1.chk, V.asPt] at h
    split at h
    · exact chkL_eq h
    · exact absurd h (by simp)
  | pv l =>
    simp only [S1.chk, V.asPv] at h
    split at h
    · split at h
      · rename_i h0; subst h0; exact chkL_eq h
      · exact absurd h (by simp)
    · exact absurd h (by simp)
theorem chkL1_eq : ∀ {l : List S1} {vs : List V} {K : List V → Option R} {r : R}, chkL1 l vs K = some r → K vs = some r
  | [], [], _, _, h => h
  | [], _ :: _, _, _, h => by simp [chkL1, seeCons, seeNil] at h
  | _ :: _, [], _, _, h => by simp [chkL1, seeCons, seeNil] at h
  | l :: ls, v :: vs, K, r, h => by
    simp only [chkL1, seeCons, seeNil] at h
    have h2 := S1.chk_eq h
    exact chkL1_eq (l := ls) (K := fun vs' => K (v :: vs')) h2
theorem Sh.chk_eq {l : Sh} {v : V} {K : V → Option R} {r : R} (h : l.chk v K = some r) : K v = some r := by
  cases l with
  | one s => exact S1.chk_eq h
  | tup l =>
    simp only [Sh.chk, V.asTup] at h
    split at h
    · exact chkL1_eq h
    · exact absurd h (by simp)

theorem get_eq {a : Arr V} {i : Nat} {K : V → Option R} {r : R} (h : a.get i K = some r) : ∃ v, a.toL[i]? = some v ∧ K v = some r := by
  unfold Arr.get at h
  cases a <;> simp only at h <;> split at h <;> first | exact absurd h (by simp) | (rename_i x hx; exact ⟨_, by simp [Arr.toL, hx]; try rfl, h⟩)

/-! ### cells -/
def CellsAt (S : Nat → Prop) (w : World) (T : Nat → Value) (M : List V) (b o : Nat) (l : List V) : Prop :=
  ∀ (j : Nat) c, l[j]? = some c → ∃ x, w.cell? ⟨b, o + j, none⟩ = some x ∧ c ≠ .dead ∧ RT S w T M x c

theorem cellsAt_pv {v : Value} {l : List V} {off : Nat} (h : RepL S w v (.pv l off)) : ∃ b o, v = .pointer (some ⟨b, o + off, none⟩) ∧ S b ∧ CellsAt S w T M b o l ∧
    (∀ (j : Nat) c, l[j]? = some c → ∃ x, w.cell? ⟨b, o + j, none⟩ = some x ∧ RepL S w x c) := by
  cases h with
  | pv b o off l x hS hx hr => exact ⟨b, o, rfl, hS, fun j c hc => ⟨x j, hx j c hc, (hr j c hc).not_agg.2.2, .of_rep (hr j c hc)⟩, fun j c hc => ⟨x j, hx j c hc, hr j c hc⟩⟩

theorem isAgg_false {t : TypeId} {d : TypeDesc} (h : P.underlying t = some d) (hd : d.isRow = false) : (isAgg t).run P w = .ok false w := by
  unfold isAgg
  rw [Sem.run_bind, run_underlying h w]
  cases d <;> simp_all [TypeDesc.isRow]

theorem TyOK.not_row {t : Nat} {ti : TI} (h : TyOK P t ti) (hs : ∀ fs, ti.d ≠ .struct fs) : ∃ d, P.underlying t = some d ∧ d.isRow = false := by
  have := h.desc
  cases hd : ti.d with
  | struct fs => exact absurd hd (hs fs)
  | int k => rw [hd] at this; exact ⟨_, this, rfl⟩
  | bool => rw [hd] at this; exact ⟨_, this, rfl⟩
  | str => rw [hd] at this; exact ⟨_, this, rfl⟩
  | sl e => rw [hd] at this; exact ⟨_, this, rfl⟩
  | ptr e => rw [hd] at this; exact ⟨_, this, rfl⟩
  | other => rw [hd] at this; exact this

theorem run_loadAt_one {t : Nat} {ti : TI} (h : TyOK P t ti) (hs : ∀ fs, ti.d ≠ .struct fs) {b o : Nat} {x : Value} (hx : w.cell? ⟨b, o, none⟩ = some x) :
    (Instr.loadAt t (.pointer (some ⟨b, o, none⟩))).run P w = .ok x w := by
  obtain ⟨d, hu, hd⟩ := h.not_row hs
  simp only [Instr.loadAt, Instr.sureAddr, loadVar, Sem.run_bind, Sem.run_pure, Result.andThen_ok, isAgg_false hu hd, run_load, hx, Bool.false_eq_true, if_false]

theorem fromCells_sound {t : Nat} {ti : TI} (h : TyOK P t ti) {b o off : Nat} {l : List V} {Kc : V → Option R} {r : R} (hc : CellsAt S w T M b o l) (hf : fromCells ti l off Kc = some r) :
    ∃ v c, (Instr.loadAt t (.pointer (some ⟨b, o + off, none⟩))).run P w = .ok v w ∧ RTV S w T M v c ∧ Kc c = some r := by
  unfold fromCells at hf
  split at hf
  · rename_i fs hd
    split at hf
    · rename_i hle
      obtain ⟨i, z, hi, hsz, _, hz, _, _, _⟩ := h.info
      have hdesc := h.desc
      rw [hd] at hdesc
      obtain ⟨fields, hu, _, _⟩ := hdesc
      let xs : List Value := (List.range ti.size).map fun j => (w.cell? ⟨b, o + off + j, none⟩).getD undef
      have hlen : xs.length = ti.size := by simp [xs]
      have hget : ∀ (j : Nat), j < ti.size → ∃ c x, (l.drop off).take ti.size = (l.drop off).take ti.size ∧ ((l.drop off).take ti.size)[j]? = some c ∧ w.cell? ⟨b, o + off + j, none⟩ = some x ∧ xs[j]? = some x ∧ c ≠ .dead ∧ RT S w T M x c := by
        intro j hj
        have hjl : off + j < l.length := by omega
        obtain ⟨x, hx, hdead, hrt⟩ := hc (off + j) l[off + j] (List.getElem?_eq_getElem hjl)
        refine ⟨l[off + j], x, rfl, ?_, by rw [← Nat.add_assoc] at hx; exact hx, ?_, hdead, hrt⟩
        · rw [List.getElem?_take, if_pos hj, List.getElem?_drop, List.getElem?_eq_getElem hjl]
        · simp only [xs, List.getElem?_map]
          rw [List.getElem?_range hj]
          rw [← Nat.add_assoc] at hx
          simp [hx]
      refine ⟨.agg xs.toArray, .agg ((l.drop off).take ti.size), ?_, ?_, hf⟩
      · refine run_loadAt_mid w b (o + off) t xs _ (fun j v hv => ?_) hu rfl (by rw [hi]; simp [hsz, hlen])
        have hj : j < ti.size := by have := (List.getElem?_eq_some_iff.1 hv).1; omega
        obtain ⟨c, x, _, _, h2, h3, _, _⟩ := hget j hj
        rw [h3] at hv; cases hv; exact h2
      · refine ⟨xs, rfl, by simp [hlen]; omega, fun j x c hx hc' => ?_⟩
        have hj : j < ti.size := by have := (List.getElem?_eq_some_iff.1 hx).1; omega
        obtain ⟨c2, x2, _, h1, _, h3, h4, h5⟩ := hget j hj
        rw [h3] at hx; rw [h1] at hc'; cases hx; cases hc'
        exact ⟨h4, h5⟩
    · exact absurd hf (by simp)
  · rename_i hs
    split at hf
    · rename_i v hv
      obtain ⟨x, hx, hdead, hrt⟩ := hc off v hv
      refine ⟨x, v, run_loadAt_one h (fun fs hfs => hs fs hfs) hx, ?_, hf⟩
      cases v with
      | agg l => exact absurd (show RepL S w x (.agg l) from hrt) (fun h => by cases h)
      | tup l => exact absurd (show RepL S w x (.tup l) from hrt) (fun h => by cases h)
      | _ => exact hrt
    · exact absurd hf (by simp)

theorem pl_eq {M : List V} {id : Nat} {c : V} (h : pl M id = c) (hc : c ≠ .dead) : M[id]? = some c := by
  unfold pl at h
  rw [List.getD_eq_getElem?_getD] at h
  cases hm : M[id]? with
  | none => rw [hm] at h; exact absurd h.symm hc
  | some c' => rw [hm] at h; exact congrArg some h

theorem FR.place (h : FR F S own T s a w) {id : Nat} {c : V} (hp : pl s.M id = c) (hc : c ≠ .dead) : PR S w T s.M own id c := h.places id c (pl_eq hp hc)

/-- the elements of an owned slice, as cells -/
theorem ownS_cells {v : Value} {ar : Arr V} (h : OwnS S w v ar) {b len cap : Nat} (hv : v = .slice (some ⟨b, 0, none⟩) len cap) {i : Nat} {u : V} (hu : ar.toL[i]? = some u) :
    ∀ (j : Nat) c, u.cells[j]? = some c → ∃ x, w.cell? ⟨b, i * ar.esz + j, none⟩ = some x ∧ RepL S w x c := by
  intro j c hc
  obtain ⟨hp, ⟨e, xs, ⟨hl, hown⟩, hr⟩, hz⟩ := h
  rcases hown with ⟨hn, _⟩ | ⟨g, cap', cur, hv', _, hg, hnc, _, hcs, htake⟩
  · rw [hv] at hn; cases hn
  · rw [hv] at hv'; cases hv'
    obtain ⟨x, hx, hrx⟩ := hr i u j c hu hc
    refine ⟨x, ?_, hrx⟩
    have hlt : i * ar.esz + j < xs.length := (List.getElem?_eq_some_iff.1 hx).1
    have : cur.toList[i * ar.esz + j]? = some x := by
      rw [← hx, ← htake, List.getElem?_take, if_pos (by rw [hl] at hlt; omega)]
    simp only [World.cell?, hg]
    simpa using this

theorem loadV_sound {E : Env} (hE : EnvOK P E) (hF : FR F S own T s a w) {t : Nat} {va : Value} {x : V} {Kc : V → Option R} {r : R} (hx : RTV S w T s.M va x) (h : loadV E s.M t x Kc = some r) :
    ∃ v c, (Instr.loadAt t va).run P w = .ok v w ∧ RTV S w T s.M v c ∧ Kc c = some r := by
  unfold loadV at h
  split at h
  · exact absurd h (by simp)
  · rename_i ti hti
    have hT := hE.ty t ti hti
    split at h
    · obtain ⟨b, o, rfl, _, hc, _⟩ := cellsAt_pv (T := T) (M := s.M) (rtv_pv hx)
      exact fromCells_sound hT hc h
    · rename_i id off
      obtain ⟨hlt, b, hTid, rfl⟩ := rtv_pr hx
      split at h
      · rename_i l hpl
        obtain ⟨b', cs, e, h1, h2, h3, h4, _⟩ := hF.place hpl (by simp)
        rw [h1] at hTid; cases hTid
        have hc : CellsAt S w T s.M b 0 l := by
          intro j c hj
          have hjs : j < cs.size := by rw [h3]; exact (List.getElem?_eq_some_iff.1 hj).1
          obtain ⟨hok, hrt⟩ := h4 j cs[j] c (Array.getElem?_eq_getElem hjs) hj
          refine ⟨cs[j], ?_, fun hd => by subst hd; simp [okCell] at hok, hrt⟩
          simp only [World.cell?, h2, Nat.zero_add]
          simp [Array.getElem?_eq_getElem hjs]
        have := fromCells_sound hT hc h
        simpa using this
      · rename_i l off' hpl
        obtain ⟨h0, b', h1, hrep⟩ := hF.place hpl (by simp)
        subst h0
        obtain ⟨b2, o, he, _, hc, _⟩ := cellsAt_pv (T := T) (M := s.M) hrep
        rw [h1] at he
        rw [h1] at hTid
        cases hTid
        cases he
        have := fromCells_sound hT hc h
        simpa using this
      · exact absurd h (by simp)
    · rename_i id i off
      obtain ⟨hlt, hrt⟩ := (show RT S w T s.M va (.er id i off) from hx)
      split at h
      · rename_i o ar hpl
        obtain ⟨_, b, len, cap, hTid, rfl⟩ := hrt o ar hpl
        obtain ⟨u, hu, h⟩ := get_eq h
        have h := S1.chk_eq h
        have hc : CellsAt S w T s.M b (i * ar.esz) u.cells := by
          intro j c hj
          have hP := hF.place hpl (by simp)
          cases o with
          | true =>
            obtain ⟨x, hx, hr⟩ := ownS_cells hP.1 hTid hu j c hj
            exact ⟨x, hx, hr.not_agg.2.2, .of_rep hr⟩
          | false =>
            have hP : RepL S w (T id) (.sl false ar) := hP
            rw [hTid] at hP
            cases hP with
            | slE base cap a h0 => 
              have := (List.getElem?_eq_some_iff.1 hu).1
              rw [Arr.length_toL, h0] at this
              omega
            | sl b o len cap a x hl hcp hS hz hxx hr =>
              have := hxx i u j c hu hj
              simp only [Nat.zero_add] at this
              exact ⟨_, this, (hr i u j c hu hj).not_agg.2.2, .of_rep (hr i u j c hu hj)⟩
        exact fromCells_sound hT hc h
      · exact absurd h (by simp)
    · exact absurd h (by simp)
end
end Go.Proofs.Ytfkkigbbejhfbaa.Idl
