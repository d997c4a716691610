/- Regions whose order is drawn. -/
import Derived.Test.YtfkkigbbejhfbaaSound27
import Derived.Orders
namespace Go.Proofs.Ytfkkigbbejhfbaa.Idl
open Go
section
variable {R : Type} {E : Env} {cf : CallF} {all : List Oper} {s s1 s2 : St} {M M' : List V}

def footV (E : Env) (M : List V) (ρ : Operand → V) (o : Oper) : Foot :=
  if isRead E M ρ o then ⟨false, o.op.operands.toList.flatMap fun x => refs (ρ x), 0⟩
  else ⟨true, o.op.operands.toList.flatMap fun x => touch M (ρ x), M.length⟩
def stepV (E : Env) (cf : CallF) (M : List V) (ρ : Operand → V) (o : Oper) : Option (List V × V × Foot) := (istep E cf M ρ o).map fun p => (p.1, p.2, footV E M ρ o)
/-- one operation, guarded, with its footprint -/
def gv (E : Env) (cf : CallF) (all : List Oper) (M : List V) (ρ : Operand → V) (o : Oper) : Option (List V × V × Foot) :=
  match guardTmp all o with
  | none => none
  | some none => stepV E cf M ρ o
  | some (some (t, want)) => (match ρ (.tmp t) with
      | .bool b => if b = want then stepV E cf M ρ o else some (M, .tup [], ⟨false, [], 0⟩)
      | .tup [] => some (M, .tup [], ⟨false, [], 0⟩)
      | _ => none)
def after (s : St) (o : Oper) (q : List V × V × Foot) : St := { s with M := q.1 }.put o.dst q.2.1

theorem footOf_eq (s : St) (o : Oper) : footOf E s o = footV E s.M s.eval o := rfl

/-- a run of operations, by their numbers, each with its footprint -/
inductive Run (E : Env) (cf : CallF) (all : List Oper) : List (Nat × Foot) → St → St → Prop where
  | nil (s : St) : Run E cf all [] s s
  | cons {i : Nat} {f : Foot} {L : List (Nat × Foot)} {s s' : St} {o : Oper} {q : List V × V × Foot} (ho : all[i]? = some o) (hq : gv E cf all s.M s.eval o = some q) (hf : q.2.2 = f) (h : Run E cf all L (after s o q) s') : Run E cf all ((i, f) :: L) s s'

theorem iopG_gv {o : Oper} {q : List V × V × Foot} (h : gv E cf all s.M s.eval o = some q) (K : St → Option R) : iopG E cf all s o K = K (after s o q) := by
  have st : stepV E cf s.M s.eval o = some q → iop E cf s o K = K (after s o q) := by
    intro h
    unfold stepV at h
    obtain ⟨p, hp, rfl⟩ := Option.map_eq_some_iff.1 h
    rw [iop_istep, hp]; rfl
  unfold gv at h
  unfold iopG
  split at h
  · exact absurd h (by simp)
  · rename_i hg
    simp only [hg]
    exact st h
  · rename_i t want hg
    simp only [hg]
    split at h
    · rename_i b hb
      have hb : s.get t = .bool b := hb
      have e := St.put_get hb (by simp)
      simp only [hb]
      split at h
      · rename_i hw
        subst hw
        cases b <;> simp only [cond_true, cond_false] <;> rw [e] <;> exact st h
      · rename_i hw
        cases h
        cases b <;> cases want <;> simp at hw <;> simp only [cond_true, cond_false] <;> rw [e] <;> rfl
    · rename_i hb
      have hb : s.get t = .tup [] := hb
      simp only [hb]
      cases h; rfl
    · exact absurd h (by simp)

theorem iopsD_run : ∀ (k : Nat) (os : List Oper) (s : St) (fs : List Foot) (K : St → List Foot → Option R) (r : R), (∀ j, os[j]? = all[k + j]?) → iopsD E cf all os s fs K = some r →
    ∃ L s', Run E cf all L s s' ∧ L.map (·.1) = List.range' k os.length ∧ K s' (fs ++ L.map (·.2)) = some r
  | k, [], s, fs, K, r, _, h => ⟨[], s, .nil s, rfl, by rw [show ([] : List (Nat × Foot)).map (·.2) = [] from rfl, List.append_nil]; exact h⟩
  | k, o :: os, s, fs, K, r, hall, h => by
    have ho : all[k]? = some o := by simpa using (hall 0).symm
    have hall' : ∀ j, os[j]? = all[(k + 1) + j]? := fun j => by have := hall (j + 1); simpa [Nat.add_assoc, Nat.add_comm 1 j] using this
    have next : ∀ {q : List V × V × Foot}, gv E cf all s.M s.eval o = some q → iopsD E cf all os (after s o q) (fs ++ [q.2.2]) K = some r →
        ∃ L s', Run E cf all L s s' ∧ L.map (·.1) = List.range' k (o :: os).length ∧ K s' (fs ++ L.map (·.2)) = some r := by
      intro q hq hk
      obtain ⟨L, s', h1, h2, h3⟩ := iopsD_run (k + 1) os _ _ K r hall' hk
      exact ⟨(k, q.2.2) :: L, s', .cons ho hq rfl h1, by simp [h2, List.range'_succ], by simpa using h3⟩
    have st : gv E cf all s.M s.eval o = stepV E cf s.M s.eval o → (iop E cf s o fun s' => iopsD E cf all os s' (fs ++ [footOf E s o]) K) = some r →
        ∃ L s', Run E cf all L s s' ∧ L.map (·.1) = List.range' k (o :: os).length ∧ K s' (fs ++ L.map (·.2)) = some r := by
      intro hg hk
      rw [iop_istep] at hk
      obtain ⟨p, hp, hk⟩ := Option.bind_eq_some_iff.1 hk
      refine next (q := (p.1, p.2, footV E s.M s.eval o)) ?_ hk
      rw [hg, stepV, hp]; rfl
    unfold iopsD at h
    split at h
    · exact absurd h (by simp)
    · rename_i hg
      exact st (by simp [gv, hg]) h
    · rename_i t want hg
      split at h
      · rename_i b hb
        have e := St.put_get hb (by simp)
        have hb' : s.eval (.tmp t) = .bool b := hb
        cases b <;> simp only [cond_true, cond_false] at h <;> rw [e] at h <;> cases want <;> simp only [if_true, Bool.false_eq_true, if_false] at h
        · exact st (by simp [gv, hg, hb']) h
        · exact next (q := (s.M, .tup [], ⟨false, [], 0⟩)) (by simp [gv, hg, hb']) h
        · exact next (q := (s.M, .tup [], ⟨false, [], 0⟩)) (by simp [gv, hg, hb']) h
        · exact st (by simp [gv, hg, hb']) h
      · rename_i hb
        have hb' : s.eval (.tmp t) = .tup [] := hb
        exact next (q := (s.M, .tup [], ⟨false, [], 0⟩)) (by simp [gv, hg, hb']) h
      · exact absurd h (by simp)

/-! ### on what it hangs -/
theorem gv_congr {o : Oper} {ρ ρ' : Operand → V} (hc : ∀ x, (∀ t, x ≠ .tmp t) → ρ' x = ρ x) (h : ∀ t, t ∈ tmpsOf o all → ρ' (.tmp t) = ρ (.tmp t)) : gv E cf all M ρ' o = gv E cf all M ρ o := by
  have hx : ∀ x, x ∈ o.op.operands → ρ' x = ρ x := by
    intro x hx
    cases x with
    | tmp t =>
      refine h t ?_
      unfold tmpsOf
      rw [List.mem_append, List.mem_filterMap]
      exact .inl ⟨.tmp t, Array.mem_toList_iff.2 hx, rfl⟩
    | const v => exact hc _ (by simp)
    | global g => exact hc _ (by simp)
    | func f => exact hc _ (by simp)
  have hl : ∀ (g : Operand → V) (f : V → List Nat), (∀ x, x ∈ o.op.operands → g x = ρ x) → (o.op.operands.toList.flatMap fun x => f (g x)) = o.op.operands.toList.flatMap fun x => f (ρ x) := by
    intro g f hg
    rw [List.flatMap_def, List.flatMap_def]
    congr 1
    exact List.map_congr_left (fun x hx => by rw [hg x (Array.mem_toList_iff.1 hx)])
  have hs : stepV E cf M ρ' o = stepV E cf M ρ o := by
    unfold stepV footV isRead
    rw [istep_congr hx, isSimple_congr hx, hl ρ' refs hx, hl ρ' (touch M) hx]
  unfold gv
  cases hg : guardTmp all o with
  | none => rfl
  | some g =>
    cases g with
    | none => exact hs
    | some tw =>
      obtain ⟨t, want⟩ := tw
      simp only
      rw [h t (by unfold tmpsOf; rw [hg]; simp), hs]
theorem gv_read {o : Oper} {ρ : Operand → V} {q : List V × V × Foot} (h : gv E cf all M ρ o = some q) (hr : q.2.2.heavy = false) :
    q.1 = M ∧ ∀ M' : List V, (∀ id, id ∈ q.2.2.ids → pl M id ≠ .dead → pl M' id = pl M id) → gv E cf all M' ρ o = some (M', q.2) := by
  have hs : stepV E cf M ρ o = some q → q.1 = M ∧ ∀ M' : List V, (∀ id, id ∈ q.2.2.ids → pl M id ≠ .dead → pl M' id = pl M id) → stepV E cf M' ρ o = some (M', q.2) := by
    intro h
    unfold stepV at h
    obtain ⟨p, hp, rfl⟩ := Option.map_eq_some_iff.1 h
    simp only at hr ⊢
    have hrd : isRead E M ρ o = true := by
      unfold footV at hr
      split at hr
      · rename_i h; exact h
      · exact absurd hr (by simp)
    obtain ⟨h1, h2⟩ := istep_read hrd hp
    refine ⟨h1, fun M' hM => ?_⟩
    have hfv : footV E M ρ o = ⟨false, o.op.operands.toList.flatMap fun x => refs (ρ x), 0⟩ := by unfold footV; rw [if_pos hrd]
    rw [hfv] at hM
    obtain ⟨h3, h4⟩ := h2 M' (fun x hx id hid hd => hM id (List.mem_flatMap.2 ⟨x, Array.mem_toList_iff.2 hx, hid⟩) hd)
    unfold stepV
    rw [h4, hfv]
    unfold footV
    rw [if_pos h3]; rfl
  unfold gv at h ⊢
  split at h
  · exact absurd h (by simp)
  · exact hs h
  · split at h
    · rename_i b hb
      split at h
      · rename_i hw
        obtain ⟨h1, h2⟩ := hs h
        exact ⟨h1, fun M' hM => by simp only [if_pos hw]; exact h2 M' hM⟩
      · rename_i hw
        cases h
        exact ⟨rfl, fun M' hM => by simp only [if_neg hw]⟩
    · cases h
      exact ⟨rfl, fun M' hM => rfl⟩
    · exact absurd h (by simp)
theorem gv_loc {o : Oper} {ρ : Operand → V} {q : List V × V × Foot} (h : gv E cf all M ρ o = some q) (hr : q.2.2.heavy = true) : Loc M q.1 q.2.2.ids ∧ q.2.2.n = M.length := by
  have hs : stepV E cf M ρ o = some q → Loc M q.1 q.2.2.ids ∧ q.2.2.n = M.length := by
    intro h
    unfold stepV at h
    obtain ⟨p, hp, rfl⟩ := Option.map_eq_some_iff.1 h
    simp only at hr ⊢
    unfold footV at hr ⊢
    split at hr
    · exact absurd hr (by simp)
    · rename_i hn
      rw [if_neg hn]
      exact ⟨istep_loc hp, rfl⟩
  unfold gv at h
  split at h
  · exact absurd h (by simp)
  · exact hs h
  · split at h
    · split at h
      · exact hs h
      · cases h; exact absurd hr (by simp)
    · cases h; exact absurd hr (by simp)
    · exact absurd h (by simp)

/-! ### two operations, exchanged -/
theorem put_get_ne {d : Option Nat} {v : V} {t : Nat} (h : d ≠ some t) : ({ s with M := M }.put d v).eval (.tmp t) = s.eval (.tmp t) := by
  cases d with
  | none => rfl
  | some d =>
    have : d ≠ t := fun e => h (by rw [e])
    simp [St.put, St.eval, St.get, List.getElem?_set_ne this]
theorem put_eval_const {d : Option Nat} {v : V} {x : Operand} (h : ∀ t, x ≠ .tmp t) : ({ s with M := M }.put d v).eval x = s.eval x := by
  cases x with
  | tmp t => exact absurd rfl (h t)
  | const v => cases d <;> rfl
  | global g => cases d <;> rfl
  | func f => cases d <;> rfl
theorem put_M {d : Option Nat} {v : V} : ({ s with M := M }.put d v).M = M := by cases d <;> rfl
theorem put_comm {d e : Option Nat} {u v : V} (h : ∀ x, d = some x → e ≠ some x) (M1 M2 M3 : List V) : { ({ s with M := M1 }.put d u) with M := M3 }.put e v = { ({ s with M := M2 }.put e v) with M := M3 }.put d u := by
  cases d with
  | none => cases e <;> rfl
  | some d =>
    cases e with
    | none => rfl
    | some e =>
      have : d ≠ e := fun x => h d rfl (by rw [x])
      simp only [St.put]
      rw [List.set_comm _ _ this]

def NoClash (all : List Oper) (a b : Oper) (fa fb : Foot) : Prop := clash all a b fa fb = false
theorem noClash_spec {a b : Oper} {fa fb : Foot} (h : NoClash all a b fa fb) : (∀ d, a.dst = some d → d ∉ tmpsOf b all ∧ b.dst ≠ some d) ∧ (∀ d, b.dst = some d → d ∉ tmpsOf a all) ∧ ¬ (fa.heavy = true ∧ fb.heavy = true) ∧
    (fa.heavy = true → ∀ id, id ∈ fb.ids → id ∉ fa.ids ∧ id < fa.n) ∧ (fb.heavy = true → ∀ id, id ∈ fa.ids → id ∉ fb.ids) := by
  unfold NoClash clash at h
  simp only [Bool.or_eq_false_iff] at h
  obtain ⟨⟨⟨⟨h1, h2⟩, h3⟩, h4⟩, h5⟩ := h
  refine ⟨fun d hd => ?_, fun d hd => ?_, fun hh => ?_, fun hh id hid => ?_, fun hh id hid => ?_⟩
  · rw [hd] at h1
    simp only [Bool.or_eq_false_iff] at h1
    exact ⟨by simpa using h1.1, by simpa using h1.2⟩
  · rw [hd] at h2
    simpa using h2
  · rw [hh.1, hh.2] at h3; simp at h3
  · rw [hh, Bool.true_and, List.any_eq_false] at h4
    have := h4 id hid
    simp only [Bool.or_eq_true, not_or, decide_eq_true_eq] at this
    exact ⟨by simpa using this.1, by omega⟩
  · rw [hh, Bool.true_and, List.any_eq_false] at h5
    have := h5 id hid
    simpa using this

theorem swap {oy ox : Oper} {qy qx : List V × V × Foot} (hy : gv E cf all s.M s.eval oy = some qy) (hx : gv E cf all (after s oy qy).M (after s oy qy).eval ox = some qx) (hn : NoClash all oy ox qy.2.2 qx.2.2) :
    ∃ qx' qy', gv E cf all s.M s.eval ox = some qx' ∧ qx'.2.2 = qx.2.2 ∧ gv E cf all (after s ox qx').M (after s ox qx').eval oy = some qy' ∧ qy'.2.2 = qy.2.2 ∧ after (after s ox qx') oy qy' = after (after s oy qy) ox qx := by
  obtain ⟨n1, n2, n3, n4, n5⟩ := noClash_spec hn
  have hM : (after s oy qy).M = qy.1 := put_M
  rw [hM] at hx
  rw [show gv E cf all qy.1 (after s oy qy).eval ox = gv E cf all qy.1 s.eval ox from gv_congr (fun x hx => put_eval_const hx) (fun t ht => put_get_ne (fun e => (n1 t e).1 ht))] at hx
  have back : ∀ q, gv E cf all (after s ox q).M (after s ox q).eval oy = gv E cf all q.1 s.eval oy := by
    intro q
    have : (after s ox q).M = q.1 := put_M
    rw [this]
    exact gv_congr (fun x hx => put_eval_const hx) (fun t ht => put_get_ne (fun e => n2 t e ht))
  cases hxh : qx.2.2.heavy with
  | false =>
    obtain ⟨e1, r1⟩ := gv_read hx hxh
    have h1 := r1 s.M (fun id hid hd => by
      cases hyh : qy.2.2.heavy with
      | false => rw [(gv_read hy hyh).1]
      | true =>
        obtain ⟨k, hn⟩ := gv_loc hy hyh
        obtain ⟨a1, a2⟩ := n4 hyh id hid
        rw [hn] at a2
        exact (k.keep id a2 a1).symm)
    refine ⟨(s.M, qx.2), qy, h1, rfl, by rw [back]; exact hy, rfl, ?_⟩
    unfold after
    rw [e1]
    exact (put_comm (fun d hd => (n1 d hd).2) _ _ _).symm
  | true =>
    have hyh : qy.2.2.heavy = false := by
      cases h : qy.2.2.heavy with
      | false => rfl
      | true => exact absurd ⟨h, hxh⟩ n3
    obtain ⟨e1, r1⟩ := gv_read hy hyh
    rw [e1] at hx
    obtain ⟨k, _⟩ := gv_loc hx hxh
    have h1 := r1 qx.1 (fun id hid hd => k.keep id (pl_lt rfl hd) (n5 hxh id hid))
    refine ⟨qx, (qx.1, qy.2), hx, rfl, by rw [back]; exact h1, rfl, ?_⟩
    unfold after
    exact (put_comm (fun d hd => (n1 d hd).2) _ _ _).symm

/-- an operation that clashes with none of those ahead of it may come first -/
theorem run_first {i : Nat} {f : Foot} {o : Oper} (ho : all[i]? = some o) : ∀ (A B : List (Nat × Foot)) (s s' : St), (∀ j g oj, (j, g) ∈ A → all[j]? = some oj → NoClash all oj o g f) → Run E cf all (A ++ (i, f) :: B) s s' → Run E cf all ((i, f) :: (A ++ B)) s s'
  | [], B, s, s', _, h => h
  | (j, g) :: A, B, s, s', hA, h => by
    cases h with
    | @cons _ _ _ _ _ oj qy hoj hy hfy h =>
      have h2 := run_first ho A B _ s' (fun k g' ok hk => hA k g' ok (by simp [hk])) h
      cases h2 with
      | @cons _ _ _ _ _ o' qx ho' hx hfx h3 =>
        rw [ho] at ho'; cases ho'
        have hn := hA j g oj (by simp) hoj
        obtain ⟨qx', qy', a1, a2, a3, a4, a5⟩ := swap hy hx (by rw [hfy, hfx]; exact hn)
        refine .cons ho a1 (a2.trans hfx) (.cons hoj a3 (a4.trans hfy) ?_)
        rw [a5]; exact h3
end
end Go.Proofs.Ytfkkigbbejhfbaa.Idl
