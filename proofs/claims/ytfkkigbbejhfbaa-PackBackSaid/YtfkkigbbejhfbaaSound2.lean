/- The simple operations: what the machine makes of them is what the ideal value stands for. -/
import Derived.Test.YtfkkigbbejhfbaaSound1
import Derived.Laws.BytesArg
import Derived.Laws.IdiomStrings
import Derived.Laws.Pointers
import Derived.Laws.Concat
import Derived.Laws.Small
namespace Go.Proofs.Ytfkkigbbejhfbaa.Idl
open Go
variable {P : Program}

/-- a zero cell -/
def ZeroL (x : Value) : V → Prop
  | .int k n => n = 0 ∧ x = .int k 0
  | .bool b => b = false ∧ x = .bool false
  | .str s => x = .string s
  | .nilp => x = .pointer none
  | .nilf => x = .nilFunc
  | .sl o a => o = false ∧ a.len = 0 ∧ 0 < a.esz ∧ x = .slice none 0 0
  | _ => False
def descOK (P : Program) (t : TypeId) (d : TD) : Prop :=
  match d with
  | .int k => P.underlying t = some (.int k)
  | .bool => P.underlying t = some .bool
  | .str => P.underlying t = some .string
  | .sl e => P.underlying t = some (.slice e)
  | .ptr e => P.underlying t = some (.pointer e)
  | .struct fs => ∃ fields : Array Field, P.underlying t = some (.struct fields) ∧ fields.size = fs.length ∧
      ∀ (i o ft : Nat), fs[i]? = some (o, ft) → ∃ f, fields[i]? = some f ∧ f.offset = o ∧ f.type = ft ∧ ∃ k, P.info? ft = some k ∧ k.size ≠ 0
  | .other => ∃ u, P.underlying t = some u ∧ u.isRow = false
structure TyOK (P : Program) (t : TypeId) (ti : TI) : Prop where
  desc : descOK P t ti.d
  info : ∃ i z, P.info? t = some i ∧ i.size = ti.size ∧ i.bytes = ti.bytes ∧ i.zero = some z ∧ z.cells.size = ti.size ∧ ti.zero.length = ti.size ∧
    (∀ (j : Nat) x c, z.cells[j]? = some x → ti.zero[j]? = some c → ZeroL x c)
  one : (∀ fs, ti.d ≠ .struct fs) → ti.size = 1
  row : (∃ fs, ti.d = .struct fs) → ∃ cs, (match ti.d with | .struct _ => True | _ => False) ∧ ∀ i z, P.info? t = some i → i.zero = some z → z = .agg cs
  pos : 0 < ti.size
  ek : match ti.ek with
    | .ints _ | .bools | .strs => ti.size = 1
    | .vals n => n = ti.size
structure EnvOK (P : Program) (E : Env) : Prop where
  ty : ∀ t ti, E.ty t = some ti → TyOK P t ti
  fn : ∀ f fn, E.fn f = some fn → P.funcs[f]? = some fn ∧ (fn.name == "runtime.NumGoroutine") = false ∧ fn.body.isSome = true

section
variable {F : Fx} {S : Nat → Prop} {own : Nat → Option Nat} {T : Nat → Value} {s : St} {a : Act} {w : World} {M : List V} {R : Type}

theorem ofConst_rep (v : Value) : RTV S w T M v (ofConst v) := by
  unfold ofConst
  split <;> first | exact .of_rep (by constructor) | trivial

theorem FR.eval (h : FR F S own T s a w) (x : Operand) : RTV S w T s.M (a.eval x) (s.eval x) := by
  cases x with
  | tmp t =>
    show RTV S w T s.M (a.tmps.getD t undef) (s.tmps.getD t .dead)
    by_cases ht : t < s.tmps.length
    · have h1 : a.tmps[t]? = some (a.tmps[t]'(by rw [h.len]; exact ht)) := Array.getElem?_eq_getElem _
      have h2 : s.tmps[t]? = some s.tmps[t] := List.getElem?_eq_getElem ht
      have := h.tmps t _ _ h1 h2
      simpa [Array.getD_eq_getD_getElem?, List.getD_eq_getElem?_getD, h1, h2] using this
    · have h2 : s.tmps[t]? = none := List.getElem?_eq_none (Nat.not_lt.1 ht)
      simp only [List.getD_eq_getElem?_getD, h2, Option.getD_none]
      trivial
  | const v => exact ofConst_rep v
  | global g => trivial
  | func f => exact .of_rep (.fn f [] [] rfl (fun j x c hx => by simp at hx))

theorem FR.put (h : FR F S own T s a w) {v : Value} {c : V} (d : Option Tmp) (hc : RTV S w T s.M v c) : FR F S own T (s.put d c) (a.put d v) w := by
  cases d with
  | none => exact h
  | some d =>
    refine { h with len := ?_, tmps := ?_ }
    · simp [Act.put, St.put, h.len]
    · intro t v' c' hv' hc'
      simp only [Act.put, St.put, Array.getElem?_setIfInBounds, List.getElem?_set] at hv' hc' ⊢
      by_cases hd : d = t
      · subst hd
        simp only [if_true] at hv' hc'
        split at hv' <;> split at hc' <;> simp_all
      · rw [if_neg hd] at hv' hc'
        exact h.tmps t v' c' hv' hc'

theorem FR.put_undef (h : FR F S own T s a w) (d : Option Tmp) (v : Value) : FR F S own T (s.put d .dead) (a.put d v) w := h.put d trivial

theorem wp_value {o : Oper} {v : Value} {w' : World} {K : Act → World → Prop} {Q : Exit → Act → World → Prop} (hrun : (execOp a.eval o).run P w = .ok (.value v) w') (h : K (a.put o.dst v) w') : o.wp P a w K Q := by
  unfold Oper.wp
  rw [hrun]
  exact h
theorem wp_skip' {o : Oper} {w' : World} {K : Act → World → Prop} {Q : Exit → Act → World → Prop} (hrun : (execOp a.eval o).run P w = .ok .skip w') (h : K (a.put o.dst undef) w') : o.wp P a w K Q := by
  unfold Oper.wp
  rw [hrun]
  exact h

theorem rtv_int {v : Value} {k : IntKind} {n : Int} (h : RTV S w T M v (.int k n)) : v = .int k n := RepL.ground_int h
theorem rtv_bool {v : Value} {b : Bool} (h : RTV S w T M v (.bool b)) : v = .bool b := RepL.ground_bool h
theorem rtv_str {v : Value} {b : ByteArray} (h : RTV S w T M v (.str b)) : v = .string b := RepL.ground_str h
theorem rtv_nilp {v : Value} (h : RTV S w T M v .nilp) : v = .pointer none := by cases (show RepL S w v .nilp from h); rfl
theorem rtv_nils {v : Value} (h : RTV S w T M v .nils) : v = .slice none 0 0 := by cases (show RepL S w v .nils from h); rfl
theorem rtv_pv {v : Value} {l : List V} {off : Nat} (h : RTV S w T M v (.pv l off)) : RepL S w v (.pv l off) := h
theorem rtv_sl {v : Value} {o : Bool} {a : Arr V} (h : RTV S w T M v (.sl o a)) : RepL S w v (.sl o a) := h
theorem rtv_pr {v : Value} {id off : Nat} (h : RTV S w T M v (.pr id off)) : RT S w T M v (.pr id off) := h
theorem rtv_fn {v : Value} {f : Nat} {cap : List V} (h : RTV S w T M v (.fn f cap)) : RepL S w v (.fn f cap) := h

/-! ### numbers, strings, bools -/

theorem intOp_sound {op : BinOp} {k : IntKind} {x y : Int} {Kc : V → Option R} {r : R} (t : TypeId) (hop : op ≠ .shl ∧ op ≠ .shr) (h : intOp op k x y Kc = some r) :
    ∃ v c, (binOp op t (.int k x) (.int k y)).run P w = .ok v w ∧ RTV S w T M v c ∧ Kc c = some r := by
  cases op <;> simp only [intOp, reduceCtorEq] at h
  case add => exact ⟨_, _, by simp [binOp, Op.intArith], .of_rep (.int ..), h⟩
  case sub => exact ⟨_, _, by simp [binOp, Op.intArith], .of_rep (.int ..), h⟩
  case mul => exact ⟨_, _, by simp [binOp, Op.intArith], .of_rep (.int ..), h⟩
  case quo =>
    split at h
    · exact absurd h (by simp)
    · rename_i hy
      exact ⟨_, _, by simp [binOp, Op.intDiv, hy], .of_rep (.int ..), h⟩
  case rem =>
    split at h
    · exact absurd h (by simp)
    · rename_i hy
      exact ⟨_, _, by simp [binOp, Op.intDiv, hy], .of_rep (.int ..), h⟩
  case and => exact ⟨_, _, by simp [binOp, Op.intBits], .of_rep (.int ..), h⟩
  case or => exact ⟨_, _, by simp [binOp, Op.intBits], .of_rep (.int ..), h⟩
  case xor => exact ⟨_, _, by simp [binOp, Op.intBits], .of_rep (.int ..), h⟩
  case eql => exact ⟨_, _, by simp [binOp, Op.intCmp], .of_rep (.bool ..), h⟩
  case neq => exact ⟨_, _, by simp [binOp, Op.intCmp], .of_rep (.bool ..), h⟩
  case lss => exact ⟨_, _, by simp [binOp, Op.intCmp], .of_rep (.bool ..), h⟩
  case leq => exact ⟨_, _, by simp [binOp, Op.intCmp], .of_rep (.bool ..), h⟩
  case gtr => exact ⟨_, _, by simp [binOp, Op.intCmp], .of_rep (.bool ..), h⟩
  case geq => exact ⟨_, _, by simp [binOp, Op.intCmp], .of_rep (.bool ..), h⟩

theorem shiftOp_sound {op : BinOp} {k k' : IntKind} {x y : Int} {Kc : V → Option R} {r : R} (t : TypeId) (hop : op = .shl ∨ op = .shr) (h : shiftOp op k x y Kc = some r) :
    ∃ v c, (binOp op t (.int k x) (.int k' y)).run P w = .ok v w ∧ RTV S w T M v c ∧ Kc c = some r := by
  unfold shiftOp at h
  split at h
  · exact absurd h (by simp)
  · rename_i hy
    rcases hop with rfl | rfl
    · exact ⟨_, _, by simp [binOp, Op.shift, hy], .of_rep (.int ..), h⟩
    · exact ⟨_, _, by simp [binOp, Op.shift, hy], .of_rep (.int ..), h⟩

theorem strOp_sound {op : BinOp} {x y : ByteArray} {Kc : V → Option R} {r : R} (t : TypeId) (h : strOp op x y Kc = some r) :
    ∃ v c, (binOp op t (.string x) (.string y)).run P w = .ok v w ∧ RTV S w T M v c ∧ Kc c = some r := by
  cases op <;> simp only [strOp, reduceCtorEq] at h
  case add =>
    split at h
    · rename_i hle
      exact ⟨_, _, by simp only [binOp]; exact run_string_add_sum w x y hle, .of_rep (.str ..), h⟩
    · exact absurd h (by simp)
  case eql => exact ⟨_, _, by simp [binOp, Op.stringOp], .of_rep (.bool ..), h⟩
  case neq => exact ⟨_, _, by simp [binOp, Op.stringOp], .of_rep (.bool ..), h⟩
  case lss => exact ⟨_, _, by simp [binOp, Op.stringOp], .of_rep (.bool ..), h⟩
  case leq => exact ⟨_, _, by simp [binOp, Op.stringOp], .of_rep (.bool ..), h⟩
  case gtr => exact ⟨_, _, by simp [binOp, Op.stringOp], .of_rep (.bool ..), h⟩
  case geq => exact ⟨_, _, by simp [binOp, Op.stringOp], .of_rep (.bool ..), h⟩

theorem eqGuard_run (op : BinOp) (t : TypeId) (ox oy : Operand) (x y : Value) (h1 : ∀ cs, x ≠ .agg cs) (h2 : x ≠ .nilIface) : (eqGuard op t ox oy x y).run P w = .ok () w := by
  unfold eqGuard
  cases x <;> (try exact absurd rfl (h1 _)) <;> (try exact absurd rfl h2) <;> (split <;> rfl)

theorem isBool_ok {E : Env} (hE : EnvOK P E) {t : Nat} (h : isBool E t = true) : P.underlying t = some .bool := by
  unfold isBool at h
  split at h
  · rename_i ti hti
    have := (hE.ty t ti hti).desc
    split at h
    · rename_i hd; rw [hd] at this; exact this
    · exact absurd h (by simp)
  · exact absurd h (by simp)
theorem isPtr_ok {E : Env} (hE : EnvOK P E) {t : Nat} (h : isPtr E t = true) : ∃ e, P.underlying t = some (.pointer e) := by
  unfold isPtr at h
  split at h
  · rename_i ti hti
    have := (hE.ty t ti hti).desc
    split at h
    · rename_i e hd; rw [hd] at this; exact ⟨e, this⟩
    · exact absurd h (by simp)
  · exact absurd h (by simp)
theorem equal_ptr {t e : TypeId} (p : Option Addr) (h : P.underlying t = some (.pointer e)) : (Op.equal t (.pointer p) (.pointer none)).run P w = .ok p.isNone w :=
  run_equal_pointer_nil w t p (by rw [h]; simp [Program.pointee, h])

theorem binOpV_sound {E : Env} (hE : EnvOK P E) {op : BinOp} {t : Nat} {ox oy : Operand} {vx vy : Value} {x y : V} {Kc : V → Option R} {r : R} (hx : RTV S w T M vx x) (hy : RTV S w T M vy y)
    (h : binOpV E op t x y Kc = some r) :
    ∃ v c, (do eqGuard op t ox oy vx vy; binOp op t vx vy : Sem Value).run P w = .ok v w ∧ RTV S w T M v c ∧ Kc c = some r := by
  have key : (∀ cs, vx ≠ .agg cs) → vx ≠ .nilIface → (∃ v c, (binOp op t vx vy).run P w = .ok v w ∧ RTV S w T M v c ∧ Kc c = some r) →
      ∃ v c, (do eqGuard op t ox oy vx vy; binOp op t vx vy : Sem Value).run P w = .ok v w ∧ RTV S w T M v c ∧ Kc c = some r := by
    rintro h1 h2 ⟨v, c, hr, hc⟩
    exact ⟨v, c, by rw [Sem.run_bind, eqGuard_run op t ox oy vx vy h1 h2]; exact hr, hc⟩
  have eqb : ∀ (u v : Bool), P.underlying t = some .bool → (binOp .eql t (.bool u) (.bool v)).run P w = .ok (.bool (u == v)) w ∧ (binOp .neq t (.bool u) (.bool v)).run P w = .ok (.bool (!(u == v))) w := by
    intro u v hu
    exact ⟨by simp [binOp, run_equal_bool w t u v hu], by simp [binOp, run_equal_bool w t u v hu]⟩
  have eqp : ∀ (p : Option Addr) e, P.underlying t = some (.pointer e) → (binOp .eql t (.pointer p) (.pointer none)).run P w = .ok (.bool p.isNone) w ∧ (binOp .neq t (.pointer p) (.pointer none)).run P w = .ok (.bool (!p.isNone)) w := by
    intro p e hu
    exact ⟨by simp [binOp, equal_ptr p hu], by simp [binOp, equal_ptr p hu]⟩
  unfold binOpV at h
  split at h
  · have e1 := rtv_int hx
    have e2 := rtv_int hy
    subst e1 e2
    refine key (by simp) (by simp) ?_
    split at h
    · exact shiftOp_sound t (.inl rfl) h
    · exact shiftOp_sound t (.inr rfl) h
    · rename_i n1 n2
      split at h
      · rename_i hk
        subst hk
        exact intOp_sound t ⟨n1, n2⟩ h
      · exact absurd h (by simp)
  · have e1 := rtv_str hx
    have e2 := rtv_str hy
    subst e1 e2
    exact key (by simp) (by simp) (strOp_sound t h)
  · have e1 := rtv_bool hx
    have e2 := rtv_bool hy
    subst e1 e2
    refine key (by simp) (by simp) ?_
    split at h
    · split at h
      · rename_i hb
        exact ⟨_, _, (eqb _ _ (isBool_ok hE hb)).1, .of_rep (.bool ..), h⟩
      · exact absurd h (by simp)
    · split at h
      · rename_i hb
        exact ⟨_, _, (eqb _ _ (isBool_ok hE hb)).2, .of_rep (.bool ..), h⟩
      · exact absurd h (by simp)
    · exact absurd h (by simp)
  · have e2 := rtv_nilp hy
    subst e2
    obtain ⟨ad, e1⟩ : ∃ ad, vx = .pointer (some ad) := by cases rtv_pv hx; exact ⟨_, rfl⟩
    subst e1
    refine key (by simp) (by simp) ?_
    split at h
    · split at h
      · rename_i hb
        obtain ⟨e, hu⟩ := isPtr_ok hE hb
        exact ⟨_, _, (eqp _ e hu).1, .of_rep (.bool ..), h⟩
      · exact absurd h (by simp)
    · split at h
      · rename_i hb
        obtain ⟨e, hu⟩ := isPtr_ok hE hb
        exact ⟨_, _, (eqp _ e hu).2, .of_rep (.bool ..), h⟩
      · exact absurd h (by simp)
    · exact absurd h (by simp)
  · have e2 := rtv_nilp hy
    subst e2
    obtain ⟨ad, e1⟩ : ∃ ad, vx = .pointer (some ad) := by obtain ⟨_, b, _, e⟩ := rtv_pr hx; exact ⟨_, e⟩
    subst e1
    refine key (by simp) (by simp) ?_
    split at h
    · split at h
      · rename_i hb
        obtain ⟨e, hu⟩ := isPtr_ok hE hb
        exact ⟨_, _, (eqp _ e hu).1, .of_rep (.bool ..), h⟩
      · exact absurd h (by simp)
    · split at h
      · rename_i hb
        obtain ⟨e, hu⟩ := isPtr_ok hE hb
        exact ⟨_, _, (eqp _ e hu).2, .of_rep (.bool ..), h⟩
      · exact absurd h (by simp)
    · exact absurd h (by simp)
  · have e1 := rtv_nilp hx
    have e2 := rtv_nilp hy
    subst e1 e2
    refine key (by simp) (by simp) ?_
    split at h
    · split at h
      · rename_i hb
        obtain ⟨e, hu⟩ := isPtr_ok hE hb
        exact ⟨_, _, (eqp _ e hu).1, .of_rep (.bool ..), h⟩
      · exact absurd h (by simp)
    · split at h
      · rename_i hb
        obtain ⟨e, hu⟩ := isPtr_ok hE hb
        exact ⟨_, _, (eqp _ e hu).2, .of_rep (.bool ..), h⟩
      · exact absurd h (by simp)
    · exact absurd h (by simp)
  · exact absurd h (by simp)

theorem unOpV_sound {op : UnOp} {vx : Value} {x : V} {Kc : V → Option R} {r : R} (hx : RTV S w T M vx x) (h : unOpV op x Kc = some r) :
    ∃ v c, (Op.unary op vx).run P w = .ok v w ∧ RTV S w T M v c ∧ Kc c = some r := by
  unfold unOpV at h
  split at h
  · have e := rtv_bool hx
    subst e
    exact ⟨_, _, by simp [Op.unary], .of_rep (.bool ..), h⟩
  · have e := rtv_int hx
    subst e
    exact ⟨_, _, by simp [Op.unary, Op.intArith], .of_rep (.int ..), h⟩
  · exact absurd h (by simp)

theorem pickV_sound {vc va vb : Value} {x y z : V} {Kc : V → Option R} {r : R} (hx : RTV S w T M vc x) (hy : RTV S w T M va y) (hz : RTV S w T M vb z) (h : pickV x y z Kc = some r) :
    ∃ v c, (do pure (.value (if ← asBool vc then va else vb)) : Sem Next).run P w = .ok (.value v) w ∧ RTV S w T M v c ∧ Kc c = some r := by
  unfold pickV at h
  split at h
  · rename_i b
    have e1 := rtv_bool hx
    subst e1
    cases b with
    | true => exact ⟨_, _, by simp [asBool], hy, h⟩
    | false => exact ⟨_, _, by simp [asBool], hz, h⟩
  · exact absurd h (by simp)
end
end Go.Proofs.Ytfkkigbbejhfbaa.Idl
