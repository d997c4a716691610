/- The operations on places, all of them but calls. -/
import Derived.Test.YtfkkigbbejhfbaaSound8
namespace Go.Proofs.Ytfkkigbbejhfbaa.Idl
open Go
variable {P : Program}
section
variable {F : Fx} {S S' : Nat → Prop} {own own' : Nat → Option Nat} {T T' : Nat → Value} {s : St} {a : Act} {w w' : World} {M : List V} {R : Type}

theorem TyOK.esz {e : Nat} {te : TI} (h : TyOK P e te) : te.ek.nil.esz = te.size := by
  have := h.ek
  cases hk : te.ek with
  | ints k => rw [hk] at this; exact this.symm
  | bools => rw [hk] at this; exact this.symm
  | strs => rw [hk] at this; exact this.symm
  | vals n => rw [hk] at this; exact this
theorem EK.nil_len (k : EK) : k.nil.len = 0 := by cases k <;> rfl

theorem ownS_nil {ar : Arr V} (h0 : ar.len = 0) (hp : 0 < ar.esz) : OwnS S w (.slice none 0 0) ar := by
  have he : ar.toL = [] := List.eq_nil_of_length_eq_zero (by rw [Arr.length_toL]; exact h0)
  refine ⟨hp, ⟨0, [], by rw [h0]; exact World.ownsRow_nil w 0 0 ar.esz, fun i u j c hi => by simp [he] at hi⟩, fun i u hi => by simp [he] at hi⟩

/-- a new place without memory -/
theorem FR.newNil (h : FR F S own T s a w) (ar : Arr V) (h0 : ar.len = 0) (hp : 0 < ar.esz) :
    ∃ own' T', FR F S own' T' { s with M := s.M ++ [.sl true ar] } a w ∧ T' s.M.length = .slice none 0 0 ∧ Later S S w w T T' s.M (s.M ++ [.sl true ar]) ∧ (∀ b, own' b = own b) := by
  obtain ⟨own', T', h1, h2, _, h4, h5⟩ := h.newPlace (w' := w) (.slice none 0 0) (.sl true ar) none (fun _ _ _ => rfl) (Nat.le_refl _) ⟨rfl, rfl, rfl⟩ (fun b hb => by cases hb)
    (fun own' T' _ hT _ _ => by
      refine ⟨by rw [hT]; exact ownS_nil h0 hp, fun b hb => ?_⟩
      rw [hT] at hb; cases hb)
  exact ⟨own', T', h1, h2, h4, fun b => by rw [h5 b]; simp⟩

theorem typed_sound {E : Env} (hE : EnvOK P E) (h : FR F S own T s a w) {t : Nat} {v : Value} {c : V} (hrt : RTV S w T s.M v c) {Kc : List V → V → Option R} {r : R} (hk : typed E s.M t c Kc = some r) :
    ∃ own' T' M' c', FR F S own' T' { s with M := M' } a w ∧ Later S S w w T T' s.M M' ∧ RTV S w T' M' v c' ∧ c' ≠ .nils ∧ (∀ id, id < s.M.length → pl M' id = pl s.M id) ∧ (∀ b, own' b = own b) ∧ Kc M' c' = some r := by
  unfold typed at hk
  split at hk
  · split at hk
    · rename_i te hte
      obtain ⟨e, hu, hte', hT⟩ := elemTI_ok hE hte
      obtain ⟨own', T', h1, h2, h3, h4⟩ := h.newNil te.ek.nil te.ek.nil_len (by rw [hT.esz]; exact hT.pos)
      refine ⟨own', T', _, .rs s.M.length, h1, h3, show RT S w T' _ v (.rs s.M.length) from ⟨by simp, ?_, ?_⟩, by simp, fun id hid => by rw [pl_push, if_neg (by omega)], h4, hk⟩
      · rw [h2]; exact rtv_nils hrt
      · rw [rtv_nils hrt]; rfl
    · exact absurd hk (by simp)
  · rename_i n
    exact ⟨own, T, s.M, c, h, .refl, hrt, fun e => n e, fun _ _ => rfl, fun _ => rfl, hk⟩

theorem isSl_ok {E : Env} (hE : EnvOK P E) {t : Nat} (h : isSl E t = true) : ∃ e, P.underlying t = some (.slice e) := by
  unfold isSl at h
  split at h
  · rename_i ti hti
    have := (hE.ty t ti hti).desc
    split at h
    · rename_i e hd; rw [hd] at this; exact ⟨e, this⟩
    · exact absurd h (by simp)
  · exact absurd h (by simp)
theorem isStr_ok {E : Env} (hE : EnvOK P E) {t : Nat} (h : isStr E t = true) : P.underlying t = some .string := by
  unfold isStr at h
  split at h
  · rename_i ti hti
    have := (hE.ty t ti hti).desc
    split at h
    · rename_i hd; rw [hd] at this; exact this
    · exact absurd h (by simp)
  · exact absurd h (by simp)

/-- behind an append: the old place is dead, a new one holds the result -/
theorem append_place {E : Env} (_hE : EnvOK P E) (h : FR F S own T s a w) {t u e ty : Nat} {te : TI} (hu : P.underlying t = some (.slice e)) (hT : TyOK P e te) (hby : te.bytes ≤ 4096) {du : TypeDesc} (hdu : P.underlying u = some du) (hnint : ∀ k, du ≠ .int k)
    {id : Nat} {ar br z : Arr V} (hpl : pl s.M id = .sl true ar) (hesz : ar.esz = te.size) {vy : Value} {news : List Value} (hsrc : Src P S w vy br news) (hbe : br.esz = ar.esz) (hb : ar.len + br.len ≤ bound)
    (hz : z.toL = ar.toL ++ br.toL) (hze : z.esz = ar.esz) (hzl : z.len = ar.len + br.len) :
    ∃ v w' own' T', (Builtin.append_ #[t, u] ty #[T id, vy]).run P w = .ok v w' ∧ FR F S own' T' { s with M := s.M.set id .dead ++ [.sl true z] } a w' ∧ RTV S w' T' (s.M.set id .dead ++ [.sl true z]) v (.rs (s.M.set id .dead).length) := by
  have hlt := pl_lt hpl (by simp)
  obtain ⟨hO, hob⟩ := h.place hpl (by simp)
  obtain ⟨xs, hxs, e0, hrow⟩ := src_own (P := P) hO
  obtain ⟨i, zz, hi, hsz, hbb, hzz, hzc, _, _⟩ := hT.info
  obtain ⟨v', w', e', hrun, hown', hgr, hnew⟩ := append_core (P := P) t u ty e i zz du ar.esz hu hdu hnint hi hzz (by omega) (by omega) (by omega) hO.pos (T id) ar.len xs ⟨e0, hrow⟩ vy br.len news (by rw [hsrc.len, hbe]) hsrc.lenOf
    (by rw [← hbe]; exact hsrc.cells) hsrc.one hb
  have hd := h.drop id False .dead hlt (fun _ _ e => by cases e) trivial
  have hS0 : ∀ b, plus S False own id b ↔ S b := fun b => ⟨fun hb => by rcases hb with hb | ⟨hf, _⟩; exact hb; exact hf.elim, fun hb => .inl hb⟩
  have hS0' : plus S False own id = S := funext fun b => propext (hS0 b)
  rw [hS0'] at hd
  have hsame : ∀ b, b < w.heap.size → (S b ∨ F.K b ∨ ∃ j, without own id b = some j) → w'.heap[b]? = w.heap[b]? := by
    intro b hbl hc
    refine hgr.block b hbl (fun hbo => ?_)
    have hbid := hob b hbo.symm
    obtain ⟨_, h2, h3, _⟩ := h.own b id hbid
    rcases hc with hc | hc | ⟨j, hc⟩
    · exact h2 hc
    · exact h3 hc
    · simp [without, hbid] at hc
  have hSrow : ∀ b, S b → w'.heap[b]? = w.heap[b]? := fun b hb => hsame b (h.slt b hb) (.inl hb)
  obtain ⟨own2, T2, f2, hT2, _, _, _⟩ := hd.newPlace (w' := w') v' (.sl true z) v'.ownBlock hsame hgr.size ⟨hgr.os, hgr.tape, hgr.output⟩
    (fun b hbv => by
      refine ⟨(World.ownsRow.lt hown' b hbv).2, fun hbl => ?_⟩
      rcases hnew b hbv with hge | hold
      · omega
      · have hbid := hob b hold
        obtain ⟨_, h2, h3, _⟩ := h.own b id hbid
        exact ⟨h2, h3, by simp [without, hbid]⟩)
    (fun own' T' ho hTv _ _ => by
      refine ⟨?_, fun b hbv => ho b (by rw [hTv] at hbv; exact hbv)⟩
      rw [hTv]
      exact ownS_app hxs hsrc hO.pos hbe hz hze hzl hown' (fun _ h => h) hSrow)
  refine ⟨v', w', own2, T2, hrun, f2, show RT S w' T2 _ v' (.rs _) from ⟨by simp, hT2.symm, ?_⟩⟩
  rcases hown'.2 with ⟨rfl, _⟩ | ⟨g, cap, cur, rfl, _⟩ <;> rfl

theorem appendV_sound {E : Env} (hE : EnvOK P E) (h : FR F S own T s a w) {t u ty : Nat} {vx vy : Value} {x y : V} (hx : RTV S w T s.M vx x) (hy : RTV S w T s.M vy y) {Kc : List V → V → Option R} {r : R} (hk : appendV E s.M t u x y Kc = some r) :
    ∃ v w' own' T' M' c, (Builtin.append_ #[t, u] ty #[vx, vy]).run P w = .ok v w' ∧ FR F S own' T' { s with M := M' } a w' ∧ RTV S w' T' M' v c ∧ Kc M' c = some r := by
  unfold appendV at hk
  split at hk
  · exact absurd hk (by simp)
  · rename_i te hte
    obtain ⟨e, hu, _, hT⟩ := elemTI_ok hE hte
    split at hk
    · rename_i hby
      obtain ⟨own1, T1, M1, c1, h1, L1, hx1, -, -, -, hk2⟩ := typed_sound hE h hx hk
      have hy1 : RTV S w T1 M1 vy y := hy.later L1
      clear hk hx hy
      have hk := hk2
      clear hk2
      split at hk
      · rename_i id
        obtain ⟨hlt, rfl, _⟩ := (show RT S w T1 M1 vx (.rs id) from hx1)
        split at hk
        · rename_i ar hpl
          split at hk
          · rename_i hesz
            have go : ∀ {br z : Arr V} {du : TypeDesc} {news : List Value}, P.underlying u = some du → (∀ k, du ≠ .int k) → Src P S w vy br news → br.esz = ar.esz → ar.len + br.len ≤ bound →
                z.toL = ar.toL ++ br.toL → z.esz = ar.esz → z.len = ar.len + br.len → Kc (M1.set id .dead ++ [V.sl true z]) (.rs M1.length) = some r →
                ∃ v w' own' T' M' c, (Builtin.append_ #[t, u] ty #[T1 id, vy]).run P w = .ok v w' ∧ FR F S own' T' { s with M := M' } a w' ∧ RTV S w' T' M' v c ∧ Kc M' c = some r := by
              intro br z du news hdu hn hsrc hbe hb hz hze hzl hk'
              obtain ⟨v, w', own2, T2, q1, q2, q3⟩ := append_place (P := P) (ty := ty) hE h1 hu hT hby hdu hn hpl hesz hsrc hbe hb hz hze hzl
              refine ⟨v, w', own2, T2, _, _, q1, q2, q3, ?_⟩
              simpa using hk'
            have slice : isSl E u = true → (∃ br news, Src P S w vy br news ∧ sliceOf M1 y (fun b => if ar.len + b.len ≤ bound ∧ b.esz = ar.esz then ar.app b fun ab => Kc (M1.set id .dead ++ [V.sl true ab]) (.rs M1.length) else none) = (if ar.len + br.len ≤ bound ∧ br.esz = ar.esz then ar.app br fun ab => Kc (M1.set id .dead ++ [V.sl true ab]) (.rs M1.length) else none)) →
                sliceOf M1 y (fun b => if ar.len + b.len ≤ bound ∧ b.esz = ar.esz then ar.app b fun ab => Kc (M1.set id .dead ++ [V.sl true ab]) (.rs M1.length) else none) = some r →
                ∃ v w' own' T' M' c, (Builtin.append_ #[t, u] ty #[T1 id, vy]).run P w = .ok v w' ∧ FR F S own' T' { s with M := M' } a w' ∧ RTV S w' T' M' v c ∧ Kc M' c = some r := by
              rintro hsl ⟨br, news, hsrc, e1⟩ hk'
              rw [e1] at hk'
              obtain ⟨e2, hdu⟩ := isSl_ok hE hsl
              split at hk'
              · rename_i hb
                obtain ⟨z, hk2, hz, hze, hzl⟩ := app_eq hk'
                exact go hdu (by simp) hsrc hb.2 hb.1 hz hze hzl hk2
              · exact absurd hk' (by simp)
            split at hk
            · split at hk
              · rename_i hsl
                obtain ⟨hsl, hbd⟩ := hsl
                have ey := rtv_nils hy1
                subst ey
                obtain ⟨e2, hdu⟩ := isSl_ok hE hsl
                have hsrc : Src P S w (.slice none 0 0) (ar.cut 0 0) [] := src_empty (by rw [cut_len]; simp) ⟨none, 0, rfl⟩
                exact go hdu (by simp) hsrc (cut_esz ar 0 0) (by rw [cut_len]; omega) (by rw [cut_toL]; simp) rfl (by rw [cut_len]; simp) hk
              · exact absurd hk (by simp)
            · rename_i b
              have ey := rtv_str hy1
              subst ey
              split at hk
              · rename_i l
                split at hk
                · rename_i hb
                  have hdu := isStr_ok hE hb.2
                  have hlen : (strBytes b).length = b.size := by rw [strBytes, List.length_map]; exact Array.length_toList
                  exact go (br := .ints .u8 (strBytes b)) (z := .ints .u8 (l ++ strBytes b)) hdu (by simp) src_str rfl (by simp [Arr.len, hlen]; exact hb.1) (by simp [Arr.toL]) rfl (by simp [Arr.len]) hk
                · exact absurd hk (by simp)
              · exact absurd hk (by simp)
            · rename_i id'
              split at hk
              · exact absurd hk (by simp)
              · rename_i hne
                split at hk
                · rename_i hsl
                  obtain ⟨hlt', rfl, _⟩ := (show RT S w T1 M1 vy (.rs id') from hy1)
                  refine slice hsl ?_ hk
                  simp only [sliceOf] at hk ⊢
                  split at hk
                  · rename_i o br hpl'
                    have hP := h1.place hpl' (by simp)
                    cases o with
                    | true =>
                      obtain ⟨news, hsrc, _⟩ := src_own (P := P) hP.1
                      exact ⟨br, news, hsrc, rfl⟩
                    | false =>
                      obtain ⟨news, hsrc⟩ := src_shared (P := P) (show RepL S w (T1 id') (.sl false br) from hP)
                      exact ⟨br, news, hsrc, rfl⟩
                  · exact absurd hk (by simp)
                · exact absurd hk (by simp)
            · split at hk
              · rename_i n1 n2 n3 hsl
                refine slice hsl ?_ hk
                unfold sliceOf at hk ⊢
                split at hk
                · rename_i o br
                  have hrep := rtv_sl hy1
                  cases o with
                  | true => cases hrep
                  | false =>
                    obtain ⟨news, hsrc⟩ := src_shared (P := P) hrep
                    exact ⟨br, news, hsrc, rfl⟩
                · rename_i id'
                  exact absurd rfl (n3 id')
                · exact absurd hk (by simp)
              · exact absurd hk (by simp)
          · exact absurd hk (by simp)
        · exact absurd hk (by simp)
      · exact absurd hk (by simp)
    · exact absurd hk (by simp)
end
end Go.Proofs.Ytfkkigbbejhfbaa.Idl
