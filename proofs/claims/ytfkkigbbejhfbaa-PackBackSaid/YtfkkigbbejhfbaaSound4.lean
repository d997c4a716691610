/- The simple operations, all of them but calls. -/
import Derived.Test.YtfkkigbbejhfbaaSound3
import Derived.Laws.Strings
namespace Go.Proofs.Ytfkkigbbejhfbaa.Idl
open Go
variable {P : Program}
section
variable {F : Fx} {S : Nat → Prop} {own : Nat → Option Nat} {T : Nat → Value} {s : St} {a : Act} {w : World} {M : List V} {R : Type}

theorem run_fieldAt_ok {t f o : Nat} {fields : Array Field} {fl : Field} {k : TypeInfo} (hu : P.underlying t = some (.struct fields)) (hf : fields[f]? = some fl) (ho : fl.offset = o)
    (hi : P.info? fl.type = some k) (hk : k.size ≠ 0) (b off : Nat) :
    (Instr.fieldAt t (.pointer (some ⟨b, off, none⟩)) f).run P w = .ok (.pointer (some ⟨b, off + o, none⟩)) w := by
  simp only [Instr.fieldAt, Sem.run_bind, run_underlying hu, Result.andThen_ok, hf, Instr.sureAddr, Sem.run_pure, fieldPlace, sizeOf, typeInfo, run_program, hi, hk, if_false, Addr.add_mid, ho]

theorem fieldAddrV_sound {E : Env} (hE : EnvOK P E) {t f : Nat} {vx : Value} {x : V} {Kc : V → Option R} {r : R} (hx : RTV S w T M vx x) (h : fieldAddrV E M t x f Kc = some r) :
    ∃ v c, (Instr.fieldAt t vx f).run P w = .ok v w ∧ RTV S w T M v c ∧ Kc c = some r := by
  unfold fieldAddrV at h
  split at h
  · exact absurd h (by simp)
  · rename_i ti hti
    split at h
    · rename_i fs hd
      have hdesc := (hE.ty t ti hti).desc
      rw [hd] at hdesc
      obtain ⟨fields, hu, _, hfs⟩ := hdesc
      split at h
      · exact absurd h (by simp)
      · rename_i o ft hfo
        obtain ⟨fl, hfl, ho, hft, k, hk, hk0⟩ := hfs f o ft hfo
        have hrun := fun b off => run_fieldAt_ok (w := w) hu hfl ho (by rw [hft]; exact hk) hk0 b off
        split at h
        · rename_i l off
          have hx := rtv_pv hx
          cases hx with
          | pv b o0 off l x hS hxx hr =>
            exact ⟨_, _, by rw [hrun, Nat.add_assoc], .of_rep (.pv b o0 (off + o) l x hS hxx hr), h⟩
        · rename_i id off
          obtain ⟨hlt, b, hT, rfl⟩ := rtv_pr hx
          exact ⟨_, .pr id (off + o), hrun b off, show RT S w T M _ (.pr id (off + o)) from ⟨hlt, b, hT, rfl⟩, h⟩
        · rename_i id i off
          obtain ⟨hlt, hrt⟩ := (show RT S w T M vx (.er id i off) from hx)
          split at h
          · rename_i o' ar hpl
            obtain ⟨hil, b, len, cap, hT, rfl⟩ := hrt o' ar hpl
            refine ⟨_, .er id i (off + o), hrun b _, show RT S w T M _ (.er id i (off + o)) from ⟨hlt, fun o2 a2 h2 => ?_⟩, h⟩
            rw [hpl] at h2; cases h2
            exact ⟨hil, b, len, cap, hT, by rw [Nat.add_assoc]⟩
          · exact absurd h (by simp)
        · exact absurd h (by simp)
    · exact absurd h (by simp)

theorem fieldV_sound {E : Env} (hE : EnvOK P E) {t f : Nat} {vx : Value} {x : V} {Kc : V → Option R} {r : R} (hx : RTV S w T M vx x) (h : fieldV E t x f Kc = some r) :
    ∃ v c, (Instr.field t vx f).run P w = .ok v w ∧ RTV S w T M v c ∧ Kc c = some r := by
  unfold fieldV at h
  split at h
  · exact absurd h (by simp)
  · rename_i ti hti
    split at h
    · rename_i fs hd
      have hdesc := (hE.ty t ti hti).desc
      rw [hd] at hdesc
      obtain ⟨fields, hu, _, hfs⟩ := hdesc
      split at h
      · exact absurd h (by simp)
      · rename_i o ft hfo
        obtain ⟨fl, hfl, ho, hft, k, hk, hk0⟩ := hfs f o ft hfo
        split at h
        · rename_i fi l hfi
          obtain ⟨cs, rfl, hlen, hcs⟩ := (show RTA S w T M vx (.agg l) from hx)
          have hF := hE.ty ft fi hfi
          have hrun : ∀ v, (part fl.type cs.toArray fl.offset).run P w = .ok v w → (Instr.field t (.agg cs.toArray) f).run P w = .ok v w := by
            intro v hv
            simp only [Instr.field, Sem.run_bind, run_underlying hu, Result.andThen_ok, hfl, asAgg, Sem.run_pure, hv]
          rw [hft, ho] at hrun
          unfold fromCells at h
          split at h
          · rename_i fs' hd'
            split at h
            · rename_i hle
              obtain ⟨i, z, hi, hsz, _, hz, _, _, _⟩ := hF.info
              have hdesc' := hF.desc
              rw [hd'] at hdesc'
              obtain ⟨fields', hu', _, _⟩ := hdesc'
              refine ⟨.agg ((cs.drop o).take fi.size).toArray, .agg ((l.drop o).take fi.size), hrun _ ?_, ⟨_, rfl, by simp [hlen], fun j x c hx hc => ?_⟩, h⟩
              · have hagg : (isAgg ft).run P w = .ok true w := by
                  unfold isAgg
                  rw [Sem.run_bind, run_underlying hu' w]
                  rfl
                have hsz' : (sizeOf ft).run P w = .ok fi.size w := by simp [sizeOf, typeInfo, hi, hsz]
                simp only [part, Sem.run_bind, hagg, Result.andThen_ok, if_true, hsz', Sem.run_pure]
                congr 2
                apply Array.ext'
                simp [List.take_drop]
              · rw [List.getElem?_take] at hx hc
                split at hx
                · rename_i hj
                  rw [if_pos hj] at hc
                  rw [List.getElem?_drop] at hx hc
                  exact hcs (o + j) x c hx hc
                · exact absurd hx (by simp)
            · exact absurd h (by simp)
          · rename_i hs
            split at h
            · rename_i c hc
              have hlt : o < cs.length := by rw [hlen]; exact (List.getElem?_eq_some_iff.1 hc).1
              obtain ⟨hdead, hrt⟩ := hcs o cs[o] c (List.getElem?_eq_getElem hlt) hc
              obtain ⟨d, hu', hd'⟩ := hF.not_row (fun fs hfs => hs fs hfs)
              refine ⟨cs[o], c, hrun _ ?_, ?_, h⟩
              · simp only [part, Sem.run_bind, isAgg_false hu' hd', Result.andThen_ok, Bool.false_eq_true, if_false]
                simp [hlt]
              · cases c with
                | agg l => exact absurd rfl ((show RepL S w _ (.agg l) from hrt).not_agg.1 l)
                | tup l => exact absurd rfl ((show RepL S w _ (.tup l) from hrt).not_agg.2.1 l)
                | _ => exact hrt
            · exact absurd h (by simp)
        · exact absurd h (by simp)
    · exact absurd h (by simp)

theorem elemTI_ok {E : Env} (hE : EnvOK P E) {t : Nat} {te : TI} (h : elemTI E t = some te) : ∃ e, P.underlying t = some (.slice e) ∧ E.ty e = some te ∧ TyOK P e te := by
  unfold elemTI at h
  split at h
  · rename_i ti hti
    split at h
    · rename_i e hd
      have := (hE.ty t ti hti).desc
      rw [hd] at this
      exact ⟨e, this, h, hE.ty e te h⟩
    · exact absurd h (by simp)
  · exact absurd h (by simp)

theorem TyOK.sizeOf {e : Nat} {te : TI} (h : TyOK P e te) : (Go.sizeOf e).run P w = .ok te.size w := by
  obtain ⟨i, z, hi, hsz, _⟩ := h.info
  simp [Go.sizeOf, typeInfo, hi, hsz]

theorem run_indexAt_ok {t e : Nat} {te : TI} (hu : P.underlying t = some (.slice e)) (hT : TyOK P e te) (b o len cap : Nat) (k : IntKind) (n : Int) (h0 : 0 ≤ n) (h1 : n < len) :
    (Instr.indexAt t (.slice (some ⟨b, o, none⟩) len cap) (.int k n)).run P w = .ok (.pointer (some ⟨b, o + n.toNat * te.size, none⟩)) w := by
  simp [Instr.indexAt, run_underlying hu, asIntOf, h0, h1, hT.sizeOf, Addr.add_mid]

theorem shared_index {E : Env} (_hE : EnvOK P E) {t e : Nat} {te : TI} (hu : P.underlying t = some (.slice e)) (hT : TyOK P e te) {vx : Value} {ar : Arr V} (hx : RepL S w vx (.sl false ar)) (hz : ar.esz = te.size)
    {k : IntKind} {n : Int} (h0 : 0 ≤ n) {u : V} (hu' : ar.toL[n.toNat]? = some u) :
    ∃ v, (Instr.indexAt t vx (.int k n)).run P w = .ok v w ∧ RepL S w v (.pv u.cells 0) := by
  have hlt := (List.getElem?_eq_some_iff.1 hu').1
  rw [Arr.length_toL] at hlt
  cases hx with
  | slE base cap a h => omega
  | sl b o len cap a x hl hc hS hz' hxx hr =>
    refine ⟨_, run_indexAt_ok hu hT b o len cap k n h0 (by omega), ?_⟩
    have := RepL.pv (S := S) (w := w) b (o + n.toNat * te.size) 0 u.cells (x n.toNat) hS (fun j c hj => by
      have := hxx n.toNat u j c hu' hj
      rw [← hz]
      rw [Nat.add_assoc]
      exact this) (fun j c hj => hr n.toNat u j c hu' hj)
    exact this

theorem indexAddrV_sound {E : Env} (hE : EnvOK P E) (hF : FR F S own T s a w) {t : Nat} {vx vi : Value} {x i : V} {Kc : V → Option R} {r : R} (hx : RTV S w T s.M vx x) (hi : RTV S w T s.M vi i) (h : indexAddrV E s.M t x i Kc = some r) :
    ∃ v c, (Instr.indexAt t vx vi).run P w = .ok v w ∧ RTV S w T s.M v c ∧ Kc c = some r := by
  unfold indexAddrV at h
  split at h
  · rename_i k n te hte
    obtain ⟨e, hu, _, hT⟩ := elemTI_ok hE hte
    have ei := rtv_int hi
    subst ei
    split at h
    · rename_i h0
      split at h
      · rename_i o ar
        have hx := rtv_sl hx
        cases o with
        | true => cases hx
        | false =>
          split at h
          · rename_i hz
            obtain ⟨u, hu', h⟩ := get_eq h
            have h := S1.chk_eq h
            obtain ⟨v, hv, hr⟩ := shared_index hE hu hT hx hz h0 hu' (k := k)
            exact ⟨v, _, hv, .of_rep hr, h⟩
          · exact absurd h (by simp)
      · rename_i id
        obtain ⟨hlt, rfl, hone⟩ := (show RT S w T s.M vx (.rs id) from hx)
        split at h
        · rename_i ar hpl
          split at h
          · rename_i hc
            obtain ⟨⟨hp, ⟨e', xs, ⟨hl, hown⟩, hr⟩, hz⟩, hob⟩ := hF.place hpl (by simp)
            rcases hown with ⟨_, hn⟩ | ⟨g, cap, cur, hv, _⟩
            · omega
            · refine ⟨_, .er id n.toNat 0, by rw [hv]; exact run_indexAt_ok hu hT g 0 ar.len cap k n h0 (by omega), show RT S w T s.M _ (.er id n.toNat 0) from ⟨hlt, fun o2 a2 h2 => ?_⟩, h⟩
              rw [hpl] at h2; cases h2
              exact ⟨by omega, g, ar.len, cap, hv, by rw [hc.2]; simp⟩
          · exact absurd h (by simp)
        · rename_i ar hpl
          split at h
          · rename_i hz
            obtain ⟨u, hu', h⟩ := get_eq h
            have h := S1.chk_eq h
            obtain ⟨v, hv, hr⟩ := shared_index hE hu hT (show RepL S w (T id) (.sl false ar) from hF.place hpl (by simp)) hz h0 hu' (k := k)
            exact ⟨v, _, hv, .of_rep hr, h⟩
          · exact absurd h (by simp)
        · exact absurd h (by simp)
      · exact absurd h (by simp)
    · exact absurd h (by simp)
  · exact absurd h (by simp)

theorem indexV_sound {E : Env} (hE : EnvOK P E) {t : Nat} {vx vi : Value} {x i : V} {Kc : V → Option R} {r : R} (hx : RTV S w T M vx x) (hi : RTV S w T M vi i) (h : indexV E t x i Kc = some r) :
    ∃ v c, (Instr.index t vx vi).run P w = .ok v w ∧ RTV S w T M v c ∧ Kc c = some r := by
  unfold indexV at h
  split at h
  · exact absurd h (by simp)
  · rename_i ti hti
    split at h
    · rename_i sb k n hd
      have hdesc := (hE.ty t ti hti).desc
      rw [hd] at hdesc
      have e1 := rtv_str hx
      have e2 := rtv_int hi
      subst e1 e2
      split at h
      · rename_i h0
        split at h
        · rename_i b hb
          have hlt : n.toNat < sb.size := by
            have := (List.getElem?_eq_some_iff.1 hb).1
            rwa [Array.length_toList] at this
          refine ⟨_, _, ?_, .of_rep (.int .u8 b.toNat), h⟩
          have hg : sb[n.toNat]? = some b := by
            rw [ByteArray.getElem?_lt' sb _ hlt]
            rw [List.getElem?_eq_getElem (by rw [Array.length_toList]; exact hlt)] at hb
            rw [← hb]; rfl
          have hdesc : P.underlying t = some .string := hdesc
          simp [Instr.index, asIntOf, run_underlying hdesc, h0, hg]
        · exact absurd h (by simp)
      · exact absurd h (by simp)
    · exact absurd h (by simp)

theorem extract_sound {i : Nat} {vx : Value} {x : V} {Kc : V → Option R} {r : R}
    (h : (match x with | .tup l => (match l[i]? with | some v => Kc v | none => none) | _ => none) = some r) (hx : RTV S w T M vx x) :
    ∃ v c, (Instr.extract vx i).run P w = .ok v w ∧ RTV S w T M v c ∧ Kc c = some r := by
  split at h
  · rename_i l
    obtain ⟨cs, rfl, hlen, hcs⟩ := (show RTV S w T M vx (.tup l) from hx)
    split at h
    · rename_i c hc
      have hlt : i < cs.length := by rw [hlen]; exact (List.getElem?_eq_some_iff.1 hc).1
      have hrt := hcs i cs[i] c (List.getElem?_eq_getElem hlt) hc
      refine ⟨cs[i], c, by simp [Instr.extract, hlt], ?_, h⟩
      cases c with
      | tup l => exact absurd rfl ((show RepL S w _ (.tup l) from hrt).not_agg.2.1 l)
      | _ => exact hrt
    · exact absurd h (by simp)
  · exact absurd h (by simp)

theorem lenV_sound {t ty : Nat} (hF : FR F S own T s a w) {vx : Value} {x : V} {Kc : V → Option R} {r : R} (hx : RTV S w T s.M vx x) (h : lenV s.M x Kc = some r)
    (ht : (∃ sb, x = .str sb) ∧ P.underlying t = some .string ∨ (∀ sb, x ≠ .str sb) ∧ ∃ e, P.underlying t = some (.slice e)) :
    ∃ v c, (Builtin.len_ #[t] ty #[vx]).run P w = .ok v w ∧ RTV S w T s.M v c ∧ Kc c = some r := by
  have slc : ∀ base n cap e, P.underlying t = some (.slice e) → (Builtin.len_ #[t] ty #[.slice base n cap]).run P w = .ok (goInt n) w := by
    intro base n cap e he
    simp [Builtin.len_, run_underlying he]
  unfold lenV at h
  split at h
  · rename_i sb
    have e1 := rtv_str hx
    subst e1
    rcases ht with ⟨_, hu⟩ | ⟨hn, _⟩
    · exact ⟨_, _, by simp [Builtin.len_, run_underlying hu]; rfl, .of_rep (.int .i64 sb.size), h⟩
    · exact absurd rfl (hn sb)
  · rename_i o ar
    rcases ht with ⟨⟨_, h0⟩, _⟩ | ⟨_, e, hu⟩
    · cases h0
    · have hx := rtv_sl hx
      cases hx with
      | slE base cap _ h0 => exact ⟨_, _, slc _ _ _ e hu, by rw [h0]; exact .of_rep (.int .i64 _), h⟩
      | sl b o len cap _ x hl => exact ⟨_, _, slc _ _ _ e hu, by rw [hl]; exact .of_rep (.int .i64 _), h⟩
  · rename_i id
    obtain ⟨hlt, rfl, hone⟩ := (show RT S w T s.M vx (.rs id) from hx)
    rcases ht with ⟨⟨_, h0⟩, _⟩ | ⟨_, e, hu⟩
    · cases h0
    · split at h
      · rename_i o ar hpl
        cases o with
        | true =>
          obtain ⟨⟨hp, ⟨e', xs, ⟨hl, hown⟩, hr⟩, hz⟩, hob⟩ := hF.place hpl (by simp)
          rcases hown with ⟨hv, hn⟩ | ⟨g, cap, cur, hv, _⟩
          · exact ⟨_, _, by rw [hv]; exact slc _ _ _ e hu, by rw [hn]; exact .of_rep (.int .i64 _), h⟩
          · exact ⟨_, _, by rw [hv]; exact slc _ _ _ e hu, .of_rep (.int .i64 _), h⟩
        | false =>
          have hP : RepL S w (T id) (.sl false ar) := hF.place hpl (by simp)
          generalize T id = v at hP
          cases hP with
          | slE base cap _ h0 => exact ⟨_, _, slc _ _ _ e hu, by rw [h0]; exact .of_rep (.int .i64 _), h⟩
          | sl b o len cap _ x hl => exact ⟨_, _, slc _ _ _ e hu, by rw [hl]; exact .of_rep (.int .i64 _), h⟩
      · exact absurd h (by simp)
  · exact absurd h (by simp)

theorem minInt_sound {ty : Nat} {ts : Array TypeId} {vx vy : Value} {x y : V} {Kc : V → Option R} {r : R} (hx : RTV S w T M vx x) (hy : RTV S w T M vy y) (h : minInt x y Kc = some r) :
    ∃ v c, (Builtin.min_ ts ty #[vx, vy]).run P w = .ok v w ∧ RTV S w T M v c ∧ Kc c = some r := by
  unfold minInt at h
  split at h
  · have e1 := rtv_int hx
    have e2 := rtv_int hy
    subst e1 e2
    split at h
    · exact ⟨_, _, by simp [Builtin.min_, Builtin.min2], .of_rep (.int ..), h⟩
    · exact absurd h (by simp)
  · exact absurd h (by simp)
theorem maxInt_sound {ty : Nat} {ts : Array TypeId} {vx vy : Value} {x y : V} {Kc : V → Option R} {r : R} (hx : RTV S w T M vx x) (hy : RTV S w T M vy y) (h : maxInt x y Kc = some r) :
    ∃ v c, (Builtin.max_ ts ty #[vx, vy]).run P w = .ok v w ∧ RTV S w T M v c ∧ Kc c = some r := by
  unfold maxInt at h
  split at h
  · have e1 := rtv_int hx
    have e2 := rtv_int hy
    subst e1 e2
    split at h
    · exact ⟨_, _, by simp [Builtin.max_, Builtin.max2], .of_rep (.int ..), h⟩
    · exact absurd h (by simp)
  · exact absurd h (by simp)
end
end Go.Proofs.Ytfkkigbbejhfbaa.Idl
