/- The code of a body. -/
import Derived.Test.YtfkkigbbejhfbaaSound19
import Derived.Tactics
namespace Go.Proofs.Ytfkkigbbejhfbaa.Idl
open Go
variable {P : Program}
section
variable {F : Fx} {S S' : Nat → Prop} {own own' : Nat → Option Nat} {T T' : Nat → Value} {s : St} {a : Act} {w w' : World} {M M' : List V} {R : Type}

theorem St.put_get {t : Nat} {c : V} (h : s.get t = c) (hc : c ≠ .dead) : s.put (some t) c = s := by
  have hlt : t < s.tmps.length := by
    rcases Nat.lt_or_ge t s.tmps.length with h' | h'
    · exact h'
    · simp [St.get, List.getElem?_eq_none h'] at h
      exact absurd h.symm hc
  have : s.tmps.set t c = s.tmps := by
    apply List.ext_getElem? 
    intro i
    rw [List.getElem?_set]
    split
    · rename_i e
      subst e
      simp [St.get, List.getElem?_eq_getElem hlt] at h
      simp [List.getElem?_eq_getElem hlt, h, hlt]
    · rfl
  simp [St.put, this]

theorem FR.bool_tmp (h : FR F S own T s a w) {t : Nat} {b : Bool} (hb : s.get t = .bool b) : a.tmps[t]? = some (.bool b) := by
  have h1 := h.eval (.tmp t)
  have h2 : s.eval (.tmp t) = .bool b := hb
  rw [h2] at h1
  have h3 := rtv_bool h1
  have hlt : t < a.tmps.size := by
    rcases Nat.lt_or_ge t a.tmps.size with h' | h'
    · exact h'
    · exfalso
      rw [h.len] at h'
      simp [St.get, List.getElem?_eq_none h'] at hb
  simp only [Act.eval] at h3
  rw [Array.getElem?_eq_getElem hlt]
  rw [Array.getD_eq_getD_getElem?, Array.getElem?_eq_getElem hlt] at h3
  simpa using h3

/-- one that was left out -/
theorem guard_skip {all : List Oper} {o : Oper} (h : FR F S own T s a w) {t : Nat} {want : Bool} (hg : guardTmp all o = some (some (t, want))) (hb : s.get t = .tup []) : Region.wanted o (yielded all.toArray a.tmps) = false := by
  have h1 := h.eval (.tmp t)
  have h2 : s.eval (.tmp t) = .tup [] := hb
  rw [h2] at h1
  obtain ⟨cs, h3, h4, _⟩ := h1
  have h5 : cs = [] := List.eq_nil_of_length_eq_zero h4
  subst h5
  simp only [Act.eval] at h3
  unfold guardTmp at hg
  split at hg
  · simp at hg
  · rename_i j want' e
    split at hg
    · rename_i g hg'
      split at hg
      · rename_i t' ht'
        simp only [Option.some.injEq, Prod.mk.injEq] at hg
        obtain ⟨rfl, rfl⟩ := hg
        have : yielded all.toArray a.tmps j = none := by
          simp only [yielded, List.getElem?_toArray, hg', Option.bind_some, ht']
          rw [Array.getD_eq_getD_getElem?] at h3
          cases e2 : a.tmps[t']? with
          | none => rfl
          | some v =>
            rw [e2] at h3
            simp only [Option.getD_some] at h3
            subst h3; rfl
        simp [Region.wanted, e, this]
      · simp at hg
    · simp at hg

/-- is an operation wanted, the ideal way -/
theorem guard_ok {all : List Oper} {o : Oper} (h : FR F S own T s a w) :
    (guardTmp all o = some none → Region.wanted o (yielded all.toArray a.tmps) = true) ∧
    (∀ t want b, guardTmp all o = some (some (t, want)) → s.get t = .bool b → Region.wanted o (yielded all.toArray a.tmps) = (b == want)) := by
  constructor
  · intro hg
    unfold guardTmp at hg
    split at hg
    · rename_i e; simp [Region.wanted, e]
    · rename_i j want e
      split at hg
      · split at hg <;> simp at hg
      · simp at hg
  · intro t want b hg hb
    unfold guardTmp at hg
    split at hg
    · simp at hg
    · rename_i j want' e
      split at hg
      · rename_i g hg'
        split at hg
        · rename_i t' ht'
          simp only [Option.some.injEq, Prod.mk.injEq] at hg
          obtain ⟨rfl, rfl⟩ := hg
          have := h.bool_tmp hb
          simp [Region.wanted, e, yielded, hg', ht', this]
        · simp at hg
      · simp at hg

theorem iopG_sound {E : Env} {cf : CallF} (hE : EnvOK P E) (hcf : CallsOK P cf) (h : FR F S own T s a w) {all : List Oper} {o : Oper} {K : St → Option R} {r : R} {Q : Exit → Act → World → Prop} (hk : iopG E cf all s o K = some r) :
    if Region.wanted o (yielded all.toArray a.tmps) then o.wp P a w (HPost F K r) Q else HPost F K r (a.put o.dst undef) w := by
  obtain ⟨g1, g2⟩ := guard_ok (all := all) (o := o) h
  have skip : K (s.put o.dst (.tup [])) = some r → HPost F K r (a.put o.dst undef) w := fun hk => ⟨S, own, T, _, FR.put h o.dst (c := .tup []) ⟨[], rfl, rfl, fun j x c hx => by simp at hx⟩, hk⟩
  unfold iopG at hk
  split at hk
  · exact absurd hk (by simp)
  · rename_i hg
    rw [if_pos (g1 hg)]
    exact iop_sound hE hcf h o hk
  · rename_i t want hg
    split at hk
    · rename_i b hb
      have e := St.put_get hb (by simp)
      rw [g2 t want b hg hb]
      cases b with
      | true =>
        simp only [cond_true] at hk
        rw [e] at hk
        cases want with
        | true => exact iop_sound hE hcf h o hk
        | false => exact skip hk
      | false =>
        simp only [cond_false] at hk
        rw [e] at hk
        cases want with
        | true => exact skip hk
        | false => exact iop_sound hE hcf h o hk
    · rename_i hb
      rw [guard_skip h hg hb]
      exact skip hk
    · exact absurd hk (by simp)

theorem iops_sound {E : Env} {cf : CallF} (hE : EnvOK P E) (hcf : CallsOK P cf) {all : List Oper} {Q : Exit → Act → World → Prop} {K : St → Option R} {r : R} (hQ : ∀ a w, HPost F K r a w → Q .normal a w) :
    ∀ (os : List Oper) (S : Nat → Prop) (own : Nat → Option Nat) (T : Nat → Value) (s : St) (a : Act) (w : World), FR F S own T s a w → iops E cf all os s K = some r → wpList P all.toArray Q os a w
  | [], S, own, T, s, a, w, h, hk => hQ a w ⟨S, own, T, s, h, hk⟩
  | o :: os, S, own, T, s, a, w, h, hk => by
    simp only [iops] at hk
    have h1 := iopG_sound hE hcf h (Q := Q) hk
    have next : ∀ a w, HPost F (fun s => iops E cf all os s K) r a w → wpList P all.toArray Q os a w := by
      rintro a w ⟨S', own', T', s', h', hk'⟩
      exact iops_sound hE hcf hQ os S' own' T' s' a w h' hk'
    unfold wpList
    split
    · rename_i hw
      rw [if_pos hw] at h1
      exact .inl (Oper.wp_mono next h1)
    · rename_i hw
      rw [if_neg hw] at h1
      exact next _ _ h1

/-- what holds where a piece of code is left -/
def ExPost (F : Fx) (K : Ex → St → Option R) (r : R) : Exit → Act → World → Prop
  | .normal, a, w => HPost F (K .normal) r a w
  | .exit id, a, w => HPost F (K (.exit id)) r a w
  | .ret, a, w => HPost F (K .ret) r a w
  | _, _, _ => False

/-- a region whose order is drawn -/
def DrawOK (P : Program) (E : Env) (cf : CallF) : Prop :=
  ∀ (R : Type) (F : Fx) (S : Nat → Prop) (own : Nat → Option Nat) (T : Nat → Value) (s : St) (a : Act) (w : World) (K : St → Option R) (r : R) (id : Nat) (ops : Array Oper), FR F S own T s a w → iregion E cf ops true s K = some r →
    (Code.region id ops true).wp P (fun e a w => e = .normal ∧ HPost F K r a w) a w

theorem iexec_sound {E : Env} {cf : CallF} (hE : EnvOK P E) (hcf : CallsOK P cf) (hd : DrawOK P E cf) (N : Nat) (live : Live) (c : Code) :
    ∀ (K : Ex → St → Option R) (r : R) (S : Nat → Prop) (own : Nat → Option Nat) (T : Nat → Value) (s : St) (a : Act) (w : World), FR F S own T s a w → iexec E cf N live c s K = some r → c.wp P (ExPost F K r) a w := by
  induction c with
  | skip => exact fun K r S own T s a w h hk => wp_skip ⟨S, own, T, s, h, hk⟩
  | region id ops draw =>
    intro K r S own T s a w h hk
    cases draw with
    | false =>
      refine wp_region_list ?_
      have := iops_sound (Q := ExPost F K r) (K := K .normal) (all := ops.toList) hE hcf (fun a w h => h) ops.toList S own T s a w h hk
      simpa using this
    | true =>
      refine wp_mono (hd R F S own T s a w (K .normal) r id ops h hk) ?_
      rintro e a w ⟨rfl, hp⟩
      exact hp
  | seq x y ihx ihy =>
    intro K r S own T s a w h hk
    refine wp_seq ?_
    refine wp_mono (ihx _ r S own T s a w h hk) ?_
    intro e a w hp
    cases e with
    | normal =>
      obtain ⟨S1, own1, T1, s1, h1, hk1⟩ := hp
      obtain ⟨S2, own2, T2, s2, h2, hk2⟩ := masked_sound h1 hk1
      exact ihy K r S2 own2 T2 s2 a w h2 hk2
    | exit id => exact hp
    | ret => exact hp
    | goto l => exact hp
    | panic ch => exact hp
    | outgrown => exact hp
  | cond c x y ihx ihy =>
    intro K r S own T s a w h hk
    have hk : (match s.eval c with
      | .bool b => cond b (iexec E cf N live x s K) (iexec E cf N live y s K)
      | _ => none) = some r := hk
    split at hk
    · rename_i b hb
      have hv := h.eval c
      rw [hb] at hv
      refine wp_cond (rtv_bool hv) ?_
      cases b with
      | true => exact ihx K r S own T s a w h hk
      | false => exact ihy K r S own T s a w h hk
    · exact absurd hk (by simp)
  | block id x ih =>
    intro K r S own T s a w h hk
    refine wp_block (wp_mono (ih _ r S own T s a w h hk) ?_)
    intro e a w hp
    cases e with
    | normal => exact hp
    | exit i =>
      simp only [Exit.inBlock]
      by_cases hi : i = id
      · rw [if_pos hi]
        obtain ⟨S1, own1, T1, s1, h1, hk1⟩ := hp
        refine ⟨S1, own1, T1, s1, h1, ?_⟩
        simpa [onExit, hi] using hk1
      · rw [if_neg hi]
        obtain ⟨S1, own1, T1, s1, h1, hk1⟩ := hp
        refine ⟨S1, own1, T1, s1, h1, ?_⟩
        simpa [onExit, hi] using hk1
    | ret => exact hp
    | goto l => exact hp
    | panic ch => exact hp
    | outgrown => exact hp
  | loop x ih =>
    intro K r S own T s a w h hk
    have hk : (masked live 4 x s fun s => iloop (firstReg x) (iexec E cf N live x) (masked live 4 x) N s K) = some r := hk
    have rounds : ∀ (n : Nat) (S : Nat → Prop) (own : Nat → Option Nat) (T : Nat → Value) (s : St) (a : Act) (w : World), FR F S own T s a w → iloop (firstReg x) (iexec E cf N live x) (masked live 4 x) n s K = some r → Code.rounds P x (ExPost F K r) n a w := by
      intro n
      induction n with
      | zero => intro S own T s a w h hk; exact absurd hk (by simp [iloop])
      | succ n ihn =>
        intro S own T s a w h hk
        simp only [iloop] at hk
        rw [rounds_succ]
        refine wp_mono (ih _ r S own T s a w h hk) ?_
        intro e a w hp
        cases e with
        | normal =>
          obtain ⟨S1, own1, T1, s1, h1, hk1⟩ := hp
          obtain ⟨S2, own2, T2, s2, h2, hk2⟩ := masked_sound h1 hk1
          exact ihn S2 own2 T2 s2 a w h2 hk2
        | exit id => exact hp
        | ret => exact hp
        | goto l => exact hp
        | panic ch => exact hp
        | outgrown => exact hp
    obtain ⟨S1, own1, T1, s1, h1, hk1⟩ := masked_sound h hk
    exact wp_loop_rounds N (rounds N S1 own1 T1 s1 a w h1 hk1)
  | rangeFunc f ps x y => intro K r S own T s a w h hk; exact absurd (show (none : Option R) = some r from hk) (by simp)
  | exit id =>
    intro K r S own T s a w h hk
    have hk : maskedX live (some id) s (K (.exit id)) = some r := hk
    exact wp_exit (maskedX_sound h hk)
  | scope x => intro K r S own T s a w h hk; exact absurd (show (none : Option R) = some r from hk) (by simp)
  | label l => intro K r S own T s a w h hk; exact absurd (show (none : Option R) = some r from hk) (by simp)
  | goto l => intro K r S own T s a w h hk; exact absurd (show (none : Option R) = some r from hk) (by simp)
  | ret =>
    intro K r S own T s a w h hk
    have hk : maskedX live none s (K .ret) = some r := hk
    exact wp_ret (maskedX_sound h hk)
  | refuse why => intro K r S own T s a w h hk; exact absurd (show (none : Option R) = some r from hk) (by simp)
end
end Go.Proofs.Ytfkkigbbejhfbaa.Idl
