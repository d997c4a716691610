/- Tables of types and functions, looked through by a program. -/
import Derived.Test.YtfkkigbbejhfbaaTable
namespace Go.Proofs.Ytfkkigbbejhfbaa.Idl
open Go
variable {P : Program}

def find {α : Type} (t : Nat) : List (Nat × α) → Option α
  | [] => none
  | (k, v) :: l => cond (Nat.beq k t) (some v) (find t l)
theorem find_all {α : Type} {Q : Nat → α → Prop} {t : Nat} {v : α} : ∀ {l : List (Nat × α)}, (∀ p, p ∈ l → Q p.1 p.2) → find t l = some v → Q t v
  | [], _, h => by simp [find] at h
  | (k, u) :: l, hq, h => by
    simp only [find] at h
    cases hb : Nat.beq k t with
    | true =>
      rw [hb] at h
      simp only [cond_true, Option.some.injEq] at h
      have := Nat.eq_of_beq_eq_true hb
      subst this h
      exact hq (k, u) (by simp)
    | false =>
      rw [hb] at h
      exact find_all (fun p hp => hq p (by simp [hp])) h

def zeroB : Value → V → Bool
  | .int k n, .int k' n' => decide (k = k') && decide (n = 0) && decide (n' = 0)
  | .bool b, .bool b' => !b && !b'
  | .string s, .str s' => decide (s.size = 0) && decide (s'.size = 0)
  | .pointer none, .nilp => true
  | .nilFunc, .nilf => true
  | .slice none 0 0, .sl o a => !o && decide (a.len = 0) && decide (0 < a.esz)
  | _, _ => false
theorem bytes_zero {s : ByteArray} (h : s.size = 0) : s = .empty := by
  cases s with
  | mk d =>
    have : d = #[] := Array.eq_empty_of_size_eq_zero h
    subst this; rfl
theorem zeroB_ok {x : Value} {c : V} (h : zeroB x c = true) : ZeroL x c := by
  unfold zeroB at h
  split at h
  · simp only [Bool.and_eq_true, decide_eq_true_eq] at h
    obtain ⟨⟨h1, h2⟩, h3⟩ := h
    subst h1 h2 h3
    exact ⟨rfl, rfl⟩
  · simp only [Bool.and_eq_true, Bool.not_eq_true'] at h
    obtain ⟨h1, h2⟩ := h
    subst h1 h2
    exact ⟨rfl, rfl⟩
  · simp only [Bool.and_eq_true, decide_eq_true_eq] at h
    show _ = Value.string _
    rw [bytes_zero h.1, bytes_zero h.2]
  · rfl
  · rfl
  · simp only [Bool.and_eq_true, decide_eq_true_eq, Bool.not_eq_true'] at h
    obtain ⟨⟨h1, h2⟩, h3⟩ := h
    subst h1
    exact ⟨rfl, h2, h3, rfl⟩
  · cases h
def zerosB : List Value → List V → Bool
  | [], [] => true
  | x :: xs, c :: cs => zeroB x c && zerosB xs cs
  | _, _ => false
theorem zerosB_ok : ∀ {xs : List Value} {cs : List V}, zerosB xs cs = true → xs.length = cs.length ∧ ∀ (j : Nat) x c, xs[j]? = some x → cs[j]? = some c → ZeroL x c
  | [], [], _ => ⟨rfl, fun j x c h => by simp at h⟩
  | [], _ :: _, h => by simp [zerosB] at h
  | _ :: _, [], h => by simp [zerosB] at h
  | x :: xs, c :: cs, h => by
    simp only [zerosB, Bool.and_eq_true] at h
    obtain ⟨h1, h2⟩ := zerosB_ok h.2
    refine ⟨by simp [h1], fun j y d hy hd => ?_⟩
    cases j with
    | zero => simp at hy hd; subst hy hd; exact zeroB_ok h.1
    | succ j => exact h2 j y d hy hd
def fieldsB (P : Program) : List Field → List (Nat × Nat) → Bool
  | [], [] => true
  | f :: fl, (o, ft) :: fs => decide (f.offset = o) && decide (f.type = ft) && (match P.info? ft with | some k => !decide (k.size = 0) | none => false) && fieldsB P fl fs
  | _, _ => false
theorem fieldsB_ok : ∀ {fl : List Field} {fs : List (Nat × Nat)}, fieldsB P fl fs = true → fl.length = fs.length ∧ ∀ (i o ft : Nat), fs[i]? = some (o, ft) → ∃ f, fl[i]? = some f ∧ f.offset = o ∧ f.type = ft ∧ ∃ k, P.info? ft = some k ∧ k.size ≠ 0
  | [], [], _ => ⟨rfl, fun i o ft h => by simp at h⟩
  | [], _ :: _, h => by simp [fieldsB] at h
  | _ :: _, [], h => by simp [fieldsB] at h
  | f :: fl, (o, ft) :: fs, h => by
    simp only [fieldsB, Bool.and_eq_true, decide_eq_true_eq] at h
    obtain ⟨⟨⟨h1, h2⟩, h3⟩, h4⟩ := h
    obtain ⟨h5, h6⟩ := fieldsB_ok h4
    refine ⟨by simp [h5], fun i o' ft' hi => ?_⟩
    cases i with
    | zero =>
      simp at hi
      obtain ⟨rfl, rfl⟩ := hi
      refine ⟨f, rfl, h1, h2, ?_⟩
      split at h3
      · rename_i k hk
        exact ⟨k, hk, by simpa using h3⟩
      · cases h3
    | succ i => exact h6 i o' ft' hi
def descB (P : Program) (t : TypeId) (d : TD) : Bool :=
  match P.underlying t, d with
  | some (.int k), .int k' => decide (k = k')
  | some .bool, .bool => true
  | some .string, .str => true
  | some (.slice e), .sl e' => decide (e = e')
  | some (.pointer e), .ptr e' => decide (e = e')
  | some (.struct fields), .struct fs => fieldsB P fields.toList fs
  | some u, .other => !u.isRow
  | _, _ => false
theorem descB_ok {t : TypeId} {d : TD} (h : descB P t d = true) : descOK P t d := by
  unfold descB at h
  split at h
  · rename_i k k' hu; have := of_decide_eq_true h; subst this; exact hu
  · rename_i hu; exact hu
  · rename_i hu; exact hu
  · rename_i k k' hu; have := of_decide_eq_true h; subst this; exact hu
  · rename_i k k' hu; have := of_decide_eq_true h; subst this; exact hu
  · rename_i fields fs hu
    obtain ⟨h1, h2⟩ := fieldsB_ok h
    exact ⟨fields, hu, by simpa using h1, fun i o ft hi => by
      obtain ⟨f, h3, h4⟩ := h2 i o ft hi
      exact ⟨f, by rw [← Array.getElem?_toList]; exact h3, h4⟩⟩
  · rename_i u hu; exact ⟨u, hu, by simpa using h⟩
  · cases h
def ekB (ti : TI) : Bool :=
  match ti.ek with
  | .ints _ | .bools | .strs => decide (ti.size = 1)
  | .vals n => decide (n = ti.size)
def rowB (z : Value) (ti : TI) : Bool :=
  match ti.d with
  | .struct _ => (match z with | .agg _ => true | _ => false)
  | _ => decide (ti.size = 1)
def tyB (P : Program) (t : TypeId) (ti : TI) : Bool :=
  descB P t ti.d && decide (0 < ti.size) && ekB ti &&
  (match P.info? t with
   | some i => (match i.zero with
      | some z => decide (i.size = ti.size) && decide (i.bytes = ti.bytes) && decide (z.cells.size = ti.size) && zerosB z.cells.toList ti.zero && rowB z ti
      | none => false)
   | none => false)
theorem tyB_ok {t : TypeId} {ti : TI} (h : tyB P t ti = true) : TyOK P t ti := by
  simp only [tyB, Bool.and_eq_true, decide_eq_true_eq] at h
  obtain ⟨⟨⟨h1, h2⟩, h3⟩, h4⟩ := h
  split at h4
  · rename_i i hi
    split at h4
    · rename_i z hz
      simp only [Bool.and_eq_true, decide_eq_true_eq] at h4
      obtain ⟨⟨⟨⟨e1, e2⟩, e3⟩, e4⟩, e5⟩ := h4
      obtain ⟨z1, z2⟩ := zerosB_ok e4
      refine ⟨descB_ok h1, ⟨i, z, hi, e1, e2, hz, e3, by rw [← z1]; simpa using e3, fun j x c hx hc => z2 j x c (by rw [Array.getElem?_toList]; exact hx) hc⟩, fun hn => ?_, fun hs => ?_, h2, ?_⟩
      · unfold rowB at e5
        split at e5
        · rename_i fs hd; exact absurd hd (hn fs)
        · simpa using e5
      · obtain ⟨fs, hd⟩ := hs
        unfold rowB at e5
        rw [hd] at e5
        simp only at e5
        split at e5
        · rename_i cs
          refine ⟨cs, by rw [hd]; trivial, fun i' z' hi' hz' => ?_⟩
          rw [hi] at hi'; cases hi'
          rw [hz] at hz'; cases hz'; rfl
        · cases e5
      · unfold ekB at h3
        split at h3
        · rename_i hk; rw [hk]; simpa using h3
        · rename_i hk; rw [hk]; simpa using h3
        · rename_i hk; rw [hk]; simpa using h3
        · rename_i n hk; rw [hk]; simpa using h3
    · cases h4
  · cases h4
def fnB (fn : Func) : Bool := !(fn.name == "runtime.NumGoroutine") && fn.body.isSome
theorem env_ok {tys : List (Nat × TI)} {fns : List (Nat × Func)} {sigs : Nat → Option Sig} {sq : Nat → List V → Option (Bool × List V)} {ip : Nat → Option (Bool × (Arr V → Bool) × (Arr V → Arr V))} (h1 : (tys.all fun p => tyB P p.1 p.2) = true) (h2 : (fns.all fun p => fnB p.2) = true) (h3 : ∀ p, p ∈ fns → P.funcs[p.1]? = some p.2) (h4 : ∀ f ret ok g, ip f = some (ret, ok, g) → InpOK P f ret ok g) :
    EnvOK P ⟨fun t => find t tys, fun f => find f fns, sigs, [], sq, ip⟩ := by
  refine ⟨fun t ti h => ?_, fun f fn h => ?_, h4⟩
  · exact find_all (Q := fun t ti => TyOK P t ti) (fun p hp => tyB_ok (List.all_eq_true.1 h1 p hp)) h
  · refine find_all (Q := fun f fn => P.funcs[f]? = some fn ∧ (fn.name == "runtime.NumGoroutine") = false ∧ fn.body.isSome = true) (fun p hp => ⟨h3 p hp, ?_⟩) h
    have := List.all_eq_true.1 h2 p hp
    simp only [fnB, Bool.and_eq_true, Bool.not_eq_true'] at this
    exact this
end Go.Proofs.Ytfkkigbbejhfbaa.Idl
