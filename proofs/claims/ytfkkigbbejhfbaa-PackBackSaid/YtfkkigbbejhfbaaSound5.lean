/- Cuts, conversions, structs built; and frames in which memory is made. -/
import Derived.Test.YtfkkigbbejhfbaaSound4
namespace Go.Proofs.Ytfkkigbbejhfbaa.Idl
open Go
variable {P : Program}
section
variable {F : Fx} {S S' : Nat → Prop} {own : Nat → Option Nat} {T : Nat → Value} {s : St} {a : Act} {w w' : World} {M : List V} {R : Type}

theorem optInt_eq {x : Option V} {d : Int} {K : Int → Option R} {r : R} (h : optInt x d K = some r) : ∃ n, K n = some r ∧ (x = none ∧ n = d ∨ ∃ k, x = some (.int k n)) := by
  unfold optInt at h
  split at h
  · exact ⟨d, h, .inl ⟨rfl, rfl⟩⟩
  · rename_i k n
    exact ⟨n, h, .inr ⟨k, rfl⟩⟩
  · exact absurd h (by simp)

/-- operands that may be missing -/
def OptR (S : Nat → Prop) (w : World) (T : Nat → Value) (M : List V) (x : Option Value) (c : Option V) : Prop :=
  match x, c with
  | none, none => True
  | some v, some c => RTV S w T M v c
  | _, _ => False
theorem OptR.none_iff {x : Option Value} {c : Option V} (h : OptR S w T M x c) (hc : c = none) : x = none := by
  subst hc
  cases x with
  | none => rfl
  | some v => exact h.elim
theorem OptR.int {x : Option Value} {c : Option V} (h : OptR S w T M x c) {k : IntKind} {n : Int} (hc : c = some (.int k n)) : x = some (.int k n) := by
  subst hc
  cases x with
  | none => exact h.elim
  | some v => exact congrArg some (rtv_int (show RTV S w T M v (.int k n) from h))

theorem bounds_ok (b : Bool) (len cap : Nat) (lo hi mx : Option Value) (l h m : Nat) (hl : lo = none ∧ l = 0 ∨ ∃ k, lo = some (.int k (l : Int))) (hh : hi = none ∧ mx = none ∧ h = len ∨ ∃ k, hi = some (.int k (h : Int)))
    (hm : mx = none ∧ m = cap ∨ ∃ k, mx = some (.int k (m : Int))) (h1 : l ≤ h) (h2 : h ≤ m) (h3 : m ≤ cap) :
    (Instr.sliceBounds b len cap lo hi mx).run P w = .ok (l, h, m) w := by
  have sb : ∀ (k : IntKind) (i y : Nat) (code : BoundsCode), i ≤ y → (Instr.sliceBound (.int k (i : Int)) y code).run P w = .ok i w := by
    intro k i y code hi
    rw [run_sliceBound w k (i : Int) y code (by omega) (by omega)]
    simp
  rcases hm with ⟨rfl, rfl⟩ | ⟨km, rfl⟩ <;> rcases hh with ⟨rfl, hmx, rfl⟩ | ⟨kh, rfl⟩ <;> rcases hl with ⟨rfl, rfl⟩ | ⟨kl, rfl⟩ <;> (try (cases hmx; done)) <;>
    simp [Instr.sliceBounds, sb, h1, h2, h3]

theorem cut_toL (ar : Arr V) (lo hi : Nat) : (ar.cut lo hi).toL = (ar.toL.take hi).drop lo := by cases ar <;> simp [Arr.cut, Arr.toL, List.map_take, List.map_drop]
theorem cut_len (ar : Arr V) (lo hi : Nat) : (ar.cut lo hi).len = min hi ar.len - lo := by cases ar <;> simp [Arr.cut, Arr.len]
theorem cut_esz (ar : Arr V) (lo hi : Nat) : (ar.cut lo hi).esz = ar.esz := by cases ar <;> rfl

theorem cutV_sound {t e : Nat} {te : TI} (hu : P.underlying t = some (.slice e)) (hT : TyOK P e te) {vx : Value} {ar : Arr V} {lo hi mx : Option V} {lo' hi' mx' : Option Value} {Kc : V → Option R} {r : R}
    (hx : RepL S w vx (.sl false ar)) (hlo : OptR S w T M lo' lo) (hhi : OptR S w T M hi' hi) (hmx : OptR S w T M mx' mx) (h : cutV te ar lo hi mx Kc = some r) :
    ∃ v c, (Instr.sliceAt t vx lo' hi' mx').run P w = .ok v w ∧ RTV S w T M v c ∧ Kc c = some r := by
  unfold cutV at h
  split at h
  · exact absurd h (by simp)
  · rename_i hnm
    obtain ⟨hn, h, eh⟩ := optInt_eq h
    obtain ⟨ln, h, el⟩ := optInt_eq h
    obtain ⟨mn, h, em⟩ := optInt_eq h
    split at h
    · rename_i hb
      obtain ⟨h0, h1, h2, rfl, hz⟩ := hb
      obtain ⟨l, rfl⟩ := Int.eq_ofNat_of_zero_le h0
      obtain ⟨hh, rfl⟩ := Int.eq_ofNat_of_zero_le (by omega : 0 ≤ mn)
      simp only [Int.toNat_natCast] at h
      have h1' : l ≤ hh := by omega
      have h2' : hh ≤ ar.len := by omega
      -- the value's length and capacity
      have key : ∀ (base : Option Addr) (cap : Nat), vx = .slice base ar.len cap → ar.len ≤ cap → ∃ m, hh ≤ m ∧ m ≤ cap ∧
          (Instr.sliceAt t vx lo' hi' mx').run P w = .ok (.slice (if m = l then base else base.map (·.add (l * te.size))) (hh - l) (m - l)) w := by
        intro base cap hv hcap
        obtain ⟨m, hm1, hm2, hm3⟩ : ∃ m, hh ≤ m ∧ m ≤ cap ∧ (mx' = none ∧ m = cap ∨ ∃ k, mx' = some (.int k (m : Int))) := by
          rcases em with ⟨e1, e2⟩ | ⟨k, e1⟩
          · exact ⟨cap, by omega, Nat.le_refl _, .inl ⟨hmx.none_iff e1, rfl⟩⟩
          · exact ⟨hh, Nat.le_refl _, by omega, .inr ⟨k, hmx.int e1⟩⟩
        have hb := bounds_ok (P := P) (w := w) true ar.len cap lo' hi' mx' l hh m
          (by rcases el with ⟨e1, e2⟩ | ⟨k, e1⟩
              · exact .inl ⟨hlo.none_iff e1, by omega⟩
              · exact .inr ⟨k, hlo.int e1⟩)
          (by rcases eh with ⟨e1, e2⟩ | ⟨k, e1⟩
              · have hmn : mx = none := by
                  cases mx with
                  | none => rfl
                  | some m => rw [e1] at hnm; exact absurd rfl hnm
                exact .inl ⟨hhi.none_iff e1, hmx.none_iff hmn, by omega⟩
              · exact .inr ⟨k, hhi.int e1⟩)
          hm3 h1' hm1 hm2
        refine ⟨m, hm1, hm2, ?_⟩
        subst hv
        simp only [Instr.sliceAt, Sem.run_bind, run_underlying hu, Result.andThen_ok, Instr.slice, hb, hT.sizeOf, Sem.run_pure]
      have lenc : (ar.cut l hh).len = hh - l := by rw [cut_len]; omega
      cases hx with
      | slE base cap _ h00 =>
        obtain ⟨m, hm1, hm2, hr⟩ := key base cap (by rw [h00]) (by omega)
        refine ⟨_, _, hr, ?_, h⟩
        have e0 : hh - l = 0 := by omega
        rw [e0]
        exact .of_rep (.slE _ _ _ (by omega))
      | sl b o len cap _ x hl hc hS hzz hxx hrr =>
        obtain ⟨m, hm1, hm2, hr⟩ := key (some ⟨b, o, none⟩) cap (by rw [hl]) (by omega)
        refine ⟨_, _, hr, ?_, h⟩
        by_cases e0 : hh - l = 0
        · rw [e0]
          exact .of_rep (.slE _ _ _ (by omega))
        · rw [if_neg (by omega)]
          simp only [Option.map_some, Addr.add_mid]
          have gt : ∀ (i : Nat) v, (ar.cut l hh).toL[i]? = some v → ar.toL[l + i]? = some v := by
            intro i v hv
            rw [cut_toL, List.getElem?_drop, List.getElem?_take] at hv
            split at hv
            · exact hv
            · exact absurd hv (by simp)
          refine .of_rep (.sl b (o + l * te.size) _ _ _ (fun i j => x (l + i) j) lenc (by omega) hS (fun i v hv => ?_) (fun i v j c hv hj => ?_) (fun i v j c hv hj => hrr (l + i) v j c (gt i v hv) hj))
          · rw [cut_esz]; exact hzz (l + i) v (gt i v hv)
          · have := hxx (l + i) v j c (gt i v hv) hj
            rw [cut_esz, ← this, ← hz, Nat.add_mul]
            congr 2
            omega
    · exact absurd h (by simp)

theorem sliceV_sound {E : Env} (hE : EnvOK P E) (hF : FR F S own T s a w) {t : Nat} {vx : Value} {x : V} {lo hi mx : Option V} {lo' hi' mx' : Option Value} {Kc : V → Option R} {r : R}
    (hx : RTV S w T s.M vx x) (hlo : OptR S w T s.M lo' lo) (hhi : OptR S w T s.M hi' hi) (hmx : OptR S w T s.M mx' mx) (h : sliceV E s.M t x lo hi mx Kc = some r)
    (hfr : ∀ id, x = .rs id → ∀ a, pl s.M id ≠ .sl true a) :
    ∃ v c, (Instr.sliceAt t vx lo' hi' mx').run P w = .ok v w ∧ RTV S w T s.M v c ∧ Kc c = some r := by
  unfold sliceV at h
  split at h
  · exact absurd h (by simp)
  · rename_i ti hti
    have hdesc := (hE.ty t ti hti).desc
    split at h
    · rename_i sb hd
      rw [hd] at hdesc
      have hdesc : P.underlying t = some .string := hdesc
      have e1 := rtv_str hx
      subst e1
      split at h
      · obtain ⟨hn, h, eh⟩ := optInt_eq h
        obtain ⟨ln, h, el⟩ := optInt_eq h
        split at h
        · rename_i hb
          obtain ⟨h0, h1, h2⟩ := hb
          obtain ⟨l, rfl⟩ := Int.eq_ofNat_of_zero_le h0
          obtain ⟨hh, rfl⟩ := Int.eq_ofNat_of_zero_le (by omega : 0 ≤ hn)
          simp only [Int.toNat_natCast] at h
          have emx : mx' = none := hmx.none_iff rfl
          subst emx
          have hb := bounds_ok (P := P) (w := w) false sb.size sb.size lo' hi' none l hh sb.size
            (by rcases el with ⟨e1, e2⟩ | ⟨k, e1⟩
                · exact .inl ⟨hlo.none_iff e1, by omega⟩
                · exact .inr ⟨k, hlo.int e1⟩)
            (by rcases eh with ⟨e1, e2⟩ | ⟨k, e1⟩
                · exact .inl ⟨hhi.none_iff e1, rfl, by omega⟩
                · exact .inr ⟨k, hhi.int e1⟩)
            (.inl ⟨rfl, rfl⟩) (by omega) (by omega) (Nat.le_refl _)
          exact ⟨_, _, by simp only [Instr.sliceAt, Sem.run_bind, run_underlying hdesc, Result.andThen_ok, Instr.slice, hb, Option.isSome_none, Bool.false_eq_true, if_false, Sem.run_pure], .of_rep (.str _), h⟩
        · exact absurd h (by simp)
      · exact absurd h (by simp)
    · rename_i e o ar hd
      rw [hd] at hdesc
      split at h
      · rename_i te hte
        have hx := rtv_sl hx
        cases o with
        | true => cases hx
        | false => exact cutV_sound hdesc (hE.ty e te hte) hx hlo hhi hmx h
      · exact absurd h (by simp)
    · rename_i e id hd
      rw [hd] at hdesc
      obtain ⟨hlt, rfl, hone⟩ := (show RT S w T s.M vx (.rs id) from hx)
      split at h
      · rename_i o ar hpl
        split at h
        · rename_i te hte
          cases o with
          | true => exact absurd hpl (hfr id rfl ar)
          | false => exact cutV_sound hdesc (hE.ty e te hte) (show RepL S w (T id) (.sl false ar) from hF.place hpl (by simp)) hlo hhi hmx h
        · exact absurd h (by simp)
      · exact absurd h (by simp)
    · exact absurd h (by simp)

/-! ### memory is made -/
theorem PR.later {own' : Nat → Option Nat} {T' : Nat → Value} {M' : List V} (L : Later S S' w w' T T' M M') {id : Nat} {c : V} (hid : id < M.length) (h : PR S w T M own id c)
    (hown : ∀ b, own b = some id → own' b = some id ∧ w'.heap[b]? = w.heap[b]?) : PR S' w' T' M' own' id c := by
  have eT := L.hT id hid
  cases c with
  | sl o ar =>
    cases o with
    | true =>
      obtain ⟨h1, h2⟩ := h
      refine ⟨?_, fun b hb => ?_⟩
      · rw [eT]; exact h1.mono L.hS L.hw (fun b hb => (hown b (h2 b hb)).2)
      · rw [eT] at hb; exact (hown b (h2 b hb)).1
    | false =>
      show RepL S' w' (T' id) _
      rw [eT]; exact RepL.mono L.hS L.hw h
  | pt l =>
    obtain ⟨b, cs, e, h1, h2, h3, h4, h5⟩ := h
    exact ⟨b, cs, e, by rw [eT]; exact h1, by rw [(hown b h5).2]; exact h2, h3, fun j x c hx hc => ⟨(h4 j x c hx hc).1, (h4 j x c hx hc).2.later L⟩, (hown b h5).1⟩
  | pv l off =>
    obtain ⟨h0, b, h1, h2⟩ := h
    exact ⟨h0, b, by rw [eT]; exact h1, by rw [eT]; exact RepL.mono L.hS L.hw h2⟩
  | dead => trivial
  | bool b => exact h.elim
  | int k n => exact h.elim
  | str s => exact h.elim
  | nils => exact h.elim
  | nilp => exact h.elim
  | nilf => exact h.elim
  | agg l => exact h.elim
  | tup l => exact h.elim
  | fn f cap => exact h.elim
  | rs id => exact h.elim
  | pr id off => exact h.elim
  | er id i off => exact h.elim

/-- the world has grown; some new blocks are shared -/
theorem FR.grow (h : FR F S own T s a w) (hw : ∀ b, b < w.heap.size → w'.heap[b]? = w.heap[b]?) (hsz : w.heap.size ≤ w'.heap.size) (hout : w'.os = w.os ∧ w'.tape = w.tape ∧ w'.output = w.output)
    (hS : ∀ b, S b → S' b) (hS' : ∀ b, S' b → S b ∨ w.heap.size ≤ b ∧ b < w'.heap.size) : FR F S' own T s a w' := by
  have L : Later S S' w w' T T s.M s.M := ⟨hS, fun b hb => hw b (h.slt b hb), fun _ _ => rfl, Nat.le_refl _, fun _ o a _ h => ⟨o, a, h, rfl, rfl⟩⟩
  refine ⟨h.len, fun t v c hv hc => (h.tmps t v c hv hc).later L, fun id c hc => ?_, h.defers, fun b id hb => ?_, fun b hb => ?_, fun b hb => ?_,
    Nat.le_trans h.size hsz, ?_, fun b hb => hS b (h.s0 b hb), fun b hb => ?_, h.s0k, h.roots⟩
  · exact (h.places id c hc).later L (List.getElem?_eq_some_iff.1 hc).1 (fun b hb => ⟨hb, hw b (h.own b id hb).1⟩)
  · obtain ⟨h1, h2, h3, h4⟩ := h.own b id hb
    refine ⟨by omega, fun hs => ?_, h3, h4⟩
    rcases hS' b hs with h' | h'
    · exact h2 h'
    · omega
  · rcases hS' b hb with h' | h'
    · have := h.slt b h'; omega
    · exact h'.2
  · have hk := h.keep b hb
    have := h.size
    exact ⟨hk.1, by rw [hw b (by omega)]; exact hk.2⟩
  · obtain ⟨h1, h2, h3⟩ := h.outside
    exact ⟨hout.1.trans h1, hout.2.1.trans h2, hout.2.2.trans h3⟩
  · rcases hS' b hb with h' | h'
    · exact h.sk b h'
    · refine .inr (fun hk => ?_)
      have := (h.keep b hk).1
      have := h.size
      omega

theorem convV_sound {E : Env} (hE : EnvOK P E) (hF : FR F S own T s a w) {src dst : Nat} {vx : Value} {x : V} {Kc : V → Option R} {r : R} (hx : RTV S w T s.M vx x) (h : convV E s.M src dst x Kc = some r) :
    ∃ v c w' S', (convert src dst vx).run P w = .ok v w' ∧ FR F S' own T s a w' ∧ RTV S' w' T s.M v c ∧ Kc c = some r := by
  unfold convV at h
  split at h
  · rename_i ta tb hta htb
    have hA := hE.ty src ta hta
    have hB := hE.ty dst tb htb
    obtain ⟨da, hua⟩ : ∃ d, P.underlying src = some d := by
      have := hA.desc
      unfold descOK at this
      split at this
      all_goals first | exact ⟨_, this⟩ | exact ⟨_, this.choose_spec.1⟩
    have dB := hB.desc
    have dA := hA.desc
    have bytes : ∀ e te l, ta.d = .sl e → E.ty e = some te → te.d = .int .u8 → RepL S w vx (.sl false (.ints .u8 l)) → P.underlying dst = some .string → (convert src dst vx).run P w = .ok (.string (bytesStr l)) w := by
      intro e te l h1 h2 h3 hr hd
      rw [h1] at dA
      have hs : P.underlying src = some (.slice e) := dA
      have he := (hE.ty e te h2).desc
      rw [h3] at he
      have he : P.underlying e = some (.int .u8) := he
      cases hr with
      | slE base cap _ h0 =>
        have hl : l = [] := List.eq_nil_of_length_eq_zero h0
        subst hl
        cases base with
        | none =>
          rw [run_convert_bytes_nil (P := P) w src e hs he 0 cap dst hd]
          rfl
        | some ad =>
          obtain ⟨b, o, sp⟩ := ad
          have := run_bytesToString (P := P) w ⟨b, o, sp⟩ 0 cap [] (by simp [loadCells, loadCellsFrom])
          rw [run_convert_bytes_string w src dst e _ 0 cap hs he hd, this]
          rfl
      | sl b o len cap _ x hl hc hS hz hxx hrr =>
        have := run_convert_bytes_arg (P := P) w src e hs he b o len cap l hl (fun i hi => by
          have hil : i < l.length := by rw [show l.length = len from hl]; exact hi
          have hg : (Arr.ints IntKind.u8 l).toL[i]? = some (.int .u8 l[i]) := by simp [Arr.toL, hil]
          have h1 := hxx i _ 0 (.int .u8 l[i]) hg rfl
          have h2 := hrr i _ 0 (.int .u8 l[i]) hg rfl
          simp only [Arr.esz, Nat.mul_one, Nat.add_zero] at h1
          rw [h1, h2.ground_int]
          simp [hil])
        exact this dst hd
    split at h
    · rename_i k k' n hd
      have e1 := rtv_int hx
      subst e1
      rw [hd] at dB
      have dB : P.underlying dst = some (.int k) := dB
      exact ⟨_, _, w, S, by simp [convert, run_underlying hua, run_underlying dB, Conv.intToInt], hF, .of_rep (.int ..), h⟩
    · rename_i sb hd
      have e1 := rtv_str hx
      subst e1
      rw [hd] at dB
      have dB : P.underlying dst = some .string := dB
      exact ⟨_, _, w, S, by simp [convert, run_underlying hua, run_underlying dB], hF, .of_rep (.str ..), h⟩
    · rename_i o l hd
      rw [hd] at dB
      split at h
      · rename_i e he
        split at h
        · rename_i te hte
          split at h
          · rename_i hu8
            have hx := rtv_sl hx
            cases o with
            | true => cases hx
            | false => exact ⟨_, _, w, S, bytes e te l he hte hu8 hx dB, hF, .of_rep (.str ..), h⟩
          · exact absurd h (by simp)
        · exact absurd h (by simp)
      · exact absurd h (by simp)
    · rename_i id hd
      rw [hd] at dB
      obtain ⟨hlt, rfl, hone⟩ := (show RT S w T s.M vx (.rs id) from hx)
      split at h
      · rename_i o l hpl
        split at h
        · rename_i e he
          split at h
          · rename_i te hte
            split at h
            · rename_i hu8
              cases o with
              | false => exact ⟨_, _, w, S, bytes e te l he hte hu8 (hF.place hpl (by simp)) dB, hF, .of_rep (.str ..), h⟩
              | true =>
                obtain ⟨hO, hob⟩ := hF.place hpl (by simp)
                -- for the while of this reading all blocks may count as shared
                have hr : RepL (fun b => S b ∨ (T id).ownBlock = some b) w (T id) (.sl false (.ints .u8 l)) :=
                  (hO.mono (S' := fun b => S b ∨ (T id).ownBlock = some b) (w' := w) (fun b hb => .inl hb) (fun _ _ => rfl) (fun _ _ => rfl)).share (fun b hb => .inr hb)
                have := hr
                generalize hTv : T id = v at this
                refine ⟨_, _, w, S, ?_, hF, .of_rep (.str ..), h⟩
                rw [he] at dA
                have hs : P.underlying src = some (.slice e) := dA
                have he' := (hE.ty e te hte).desc
                rw [hu8] at he'
                have he' : P.underlying e = some (.int .u8) := he'
                have dB : P.underlying dst = some .string := dB
                cases this with
                | slE base cap _ h0 =>
                  have hl : l = [] := List.eq_nil_of_length_eq_zero h0
                  subst hl
                  cases base with
                  | none =>
                    rw [run_convert_bytes_nil (P := P) w src e hs he' 0 cap dst dB]
                    rfl
                  | some ad =>
                    obtain ⟨b, o, sp⟩ := ad
                    have := run_bytesToString (P := P) w ⟨b, o, sp⟩ 0 cap [] (by simp [loadCells, loadCellsFrom])
                    rw [run_convert_bytes_string w src dst e _ 0 cap hs he' dB, this]
                    rfl
                | sl b o len cap _ x hl hc hS hz hxx hrr =>
                  have := run_convert_bytes_arg (P := P) w src e hs he' b o len cap l hl (fun i hi => by
                    have hil : i < l.length := by rw [show l.length = len from hl]; exact hi
                    have hg : (Arr.ints IntKind.u8 l).toL[i]? = some (.int .u8 l[i]) := by simp [Arr.toL, hil]
                    have h1 := hxx i _ 0 (.int .u8 l[i]) hg rfl
                    have h2 := hrr i _ 0 (.int .u8 l[i]) hg rfl
                    simp only [Arr.esz, Nat.mul_one, Nat.add_zero] at h1
                    rw [h1, h2.ground_int]
                    simp [hil])
                  exact this dst dB
            · exact absurd h (by simp)
          · exact absurd h (by simp)
        · exact absurd h (by simp)
      · exact absurd h (by simp)
    · rename_i e sb hd
      rw [hd] at dB
      have dB : P.underlying dst = some (.slice e) := dB
      have e1 := rtv_str hx
      subst e1
      split at h
      · rename_i te hda hte
        split at h
        · rename_i hu8
          rw [hda] at dA
          have dA : P.underlying src = some .string := dA
          have he := (hE.ty e te hte).desc
          rw [hu8] at he
          have he : P.underlying e = some (.int .u8) := he
          have hrun := run_bytes_of_string (P := P) w src dst e sb dA dB he
          refine ⟨_, _, _, fun b => S b ∨ b = w.heap.size, hrun, hF.grow (fun b hb => ?_) ?_ ⟨rfl, rfl, rfl⟩ (fun b hb => .inl hb) (fun b hb => ?_), ?_, h⟩
          · exact heap_alloc_old w.drew _ b hb
          · simp
          · rcases hb with hb | rfl
            · exact .inl hb
            · exact .inr ⟨Nat.le_refl _, by simp⟩
          · have hlen : (strBytes sb).length = sb.size := by rw [strBytes, List.length_map]; exact Array.length_toList
            refine .of_rep (.sl w.heap.size 0 sb.size _ _ (fun i j => .int .u8 ((strBytes sb).getD i 0)) hlen (grownCap_ge w sb.size 0 e) (.inr rfl) (fun i v hv => ?_) (fun i v j c hv hj => ?_) (fun i v j c hv hj => ?_))
            · exact Arr.esz_cells _ (by simp) i v hv
            · simp only [Arr.toL, List.getElem?_map, Option.map_eq_some_iff] at hv
              obtain ⟨n, hn, rfl⟩ := hv
              have hil := (List.getElem?_eq_some_iff.1 hn).1
              have : j = 0 := by
                have := (List.getElem?_eq_some_iff.1 hj).1
                simp [V.cells] at this
                omega
              subst this
              simp only [Arr.esz, Nat.mul_one, Nat.add_zero, Nat.zero_add]
              have hil2 : i < sb.data.size := by rw [hlen] at hil; exact hil
              have hnew : (w.drew.alloc (.cells (bytesRow sb (grownCap w sb.size 0 e)) e ((bytesRow sb (grownCap w sb.size 0 e)).size, (bytesRow sb (grownCap w sb.size 0 e)).size + 1))).heap[w.heap.size]? = some (.cells (bytesRow sb (grownCap w sb.size 0 e)) e ((bytesRow sb (grownCap w sb.size 0 e)).size, (bytesRow sb (grownCap w sb.size 0 e)).size + 1)) := heap_alloc_new w.drew _
              simp only [World.cell?, hnew, Option.isSome_none, Bool.false_eq_true, if_false]
              rw [bytesRow_at sb _ i hil2]
              simp [strBytes, Array.getElem?_eq_getElem hil2]
            · simp only [Arr.toL, List.getElem?_map, Option.map_eq_some_iff] at hv
              obtain ⟨n, hn, rfl⟩ := hv
              have : j = 0 := by
                have := (List.getElem?_eq_some_iff.1 hj).1
                simp [V.cells] at this
                omega
              subst this
              simp only [V.cells, List.getElem?_cons_zero, Option.some.injEq] at hj
              subst hj
              rw [List.getD_eq_getElem?_getD, hn]
              exact .int ..
        · exact absurd h (by simp)
      · exact absurd h (by simp)
    · exact absurd h (by simp)
  · exact absurd h (by simp)
end
end Go.Proofs.Ytfkkigbbejhfbaa.Idl
