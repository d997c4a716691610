/- What an operation changes, for each kind of operation. -/
import Derived.Test.YtfkkigbbejhfbaaSound26
namespace Go.Proofs.Ytfkkigbbejhfbaa.Idl
open Go
section
variable {R : Type} {E : Env} {cf : CallF} {M M' : List V}

theorem touch_op {ρ : Operand → V} {l : List Operand} {x : Operand} (hx : x ∈ l) {id : Nat} (h : id ∈ touch M (ρ x)) : id ∈ l.flatMap fun x => touch M (ρ x) := List.mem_flatMap.2 ⟨x, hx, h⟩
theorem lent_refs {l : List V} {id : Nat} (h : id ∈ lentIds l) : ∃ c, c ∈ l ∧ id ∈ refs c := by
  rw [lentIds_eq, List.mem_flatMap] at h
  obtain ⟨c, hc, h⟩ := h
  refine ⟨c, hc, ?_⟩
  cases c with
  | rs j => simpa [lend1Ids, refs, refs1] using h
  | agg l =>
    simp only [lend1Ids, List.mem_filterMap] at h
    obtain ⟨u, hu, he⟩ := h
    simp only [refs, List.mem_flatMap]
    refine ⟨u, hu, ?_⟩
    cases u <;> simp at he
    simp [refs1, he]
  | _ => simp [lend1Ids] at h

theorem iopP_l {ρ : Operand → V} {o : Oper} {K : List V → V → Option R} {r : R} (h : iopP E cf M ρ o K = some r) : ∃ M' c, K M' c = some r ∧ Loc M M' (o.op.operands.toList.flatMap fun x => touch M (ρ x)) := by
  obtain ⟨dst, op, ty, pos, after, guard⟩ := o
  cases op <;> simp only [iopP, Op.operands, reduceCtorEq] at h ⊢
  case assign x =>
    obtain ⟨M1, c1, h, k1, _⟩ := typed_l h
    exact ⟨_, _, h, k1 _⟩
  case alloc t =>
    split at h
    · exact ⟨_, _, h, layZero_l.trans loc_push⟩
    · exact absurd h (by simp)
  case box t x =>
    split at h
    · obtain ⟨M1, c1, h, k1, _⟩ := typed_l h
      split at h
      · exact ⟨_, _, h, (k1 _).trans loc_push⟩
      · exact absurd h (by simp)
    · exact absurd h (by simp)
  case store t d x =>
    split at h
    · obtain ⟨M1, c1, h, k1, hc⟩ := typed_l h
      split at h
      · split at h
        · rename_i id off hd
          have hid : id ∈ (#[d, x] : Array Operand).toList.flatMap fun x => touch M (ρ x) := touch_op (x := d) (by simp) (touch_refs (by rw [hd]; simp [refs, refs1]))
          split at h
          · unfold setCells at h
            split at h
            · exact ⟨_, _, h, (k1 _).trans (loc_set hid)⟩
            · exact absurd h (by simp)
          · exact absurd h (by simp)
        · rename_i id i off hd
          have hid : id ∈ (#[d, x] : Array Operand).toList.flatMap fun x => touch M (ρ x) := touch_op (x := d) (by simp) (touch_refs (by rw [hd]; simp [refs, refs1]))
          split at h
          · split at h
            · obtain ⟨M2, c2, h, k2⟩ := share_l h
              split at h
              · obtain ⟨ar, _, h⟩ := some_u (f := fun R K => Arr.set _ i off c2 K) (fun R K => set_b K) h
                split at h
                · refine ⟨_, _, h, loc_new (.inl hid) ?_⟩
                  rcases hc with ⟨rfl, rfl⟩ | ⟨a, rfl, rfl, _⟩
                  · exact k2.loc.mono (fun y hy => touch_op (x := x) (by simp) hy)
                  · have h0 : touch (M ++ [V.sl true a]) (.rs M.length) = [M.length] := by
                      simp [touch, refs, refs1, pl_push]
                    rw [h0] at k2
                    refine ⟨by rw [k2.len]; simp, fun j hj hn => ?_⟩
                    rw [k2.keep j (by simp; omega), pl_push, if_neg (by omega)]
                · exact absurd h (by simp)
              · exact absurd h (by simp)
            · exact absurd h (by simp)
          · exact absurd h (by simp)
        · exact absurd h (by simp)
      · exact absurd h (by simp)
    · exact absurd h (by simp)
  case buildSlice t n ps =>
    split at h
    · rename_i te _
      obtain ⟨M1, c1, h, k1⟩ := shareAll_l h
      obtain ⟨vs, _, h⟩ := Option.bind_eq_some_iff.1 (show (ofParts te ((ps.toList.map (·.1)).zip c1) 0 some).bind (fun vs => if vs.length = n ∧ n * te.size ≤ 65536 then ofL te.ek vs fun a => K (M1 ++ [V.sl true a]) (.rs M1.length) else none) = some r from by
        rw [← ofParts_n]; exact h)
      split at h
      · obtain ⟨a, _, h⟩ := Option.bind_eq_some_iff.1 (show (ofL te.ek vs some).bind (fun a => K (M1 ++ [V.sl true a]) (.rs M1.length)) = some r from by rw [← ofL_n]; exact h)
        refine ⟨_, _, h, (k1.loc.mono (fun x hx => ?_)).trans loc_push⟩
        rw [List.mem_flatMap] at hx
        obtain ⟨c, hc, hx⟩ := hx
        rw [List.mem_map] at hc
        obtain ⟨p, hp, rfl⟩ := hc
        exact touch_op (x := p.2) (by simp only [List.mem_map]; exact ⟨p, hp, rfl⟩) hx
      · exact absurd h (by simp)
    · exact absurd h (by simp)
  case makeSlice t l c =>
    split at h
    · rename_i te k1 n k2 m _ _ _
      split at h
      · obtain ⟨a, _, h⟩ := Option.bind_eq_some_iff.1 (show (zeros te n.toNat some).bind (fun a => K (M ++ [V.sl true a]) (.rs M.length)) = some r from by rw [← zeros_n]; exact h)
        exact ⟨_, _, h, loc_push⟩
      · exact absurd h (by simp)
    · exact absurd h (by simp)
  case slice t x lo hi mx =>
    split at h
    · rename_i id hx
      split at h
      · rename_i o a _
        obtain ⟨v, _, h⟩ := some_u (f := fun R K => sliceV E (M.set id (.sl false a)) t (.rs id) (lo.map ρ) (hi.map ρ) (mx.map ρ) K) (fun R K => sliceV_b K) h
        exact ⟨_, _, h, loc_set (touch_op (x := x) (by simp) (touch_refs (by rw [hx]; simp [refs, refs1])))⟩
      · exact absurd h (by simp)
    · exact absurd h (by simp)
  case makeFunc f first cap =>
    split at h
    · split at h
      · obtain ⟨M1, c1, h, k1⟩ := shareAll_l h
        split at h
        · refine ⟨_, _, h, k1.loc.mono (fun x hx => ?_)⟩
          rw [List.mem_flatMap] at hx
          obtain ⟨c, hc, hx⟩ := hx
          rw [List.mem_map] at hc
          obtain ⟨y, hy, rfl⟩ := hc
          exact touch_op (x := y) (by simp only [Array.toList_append, List.mem_append]; exact .inr hy) hx
        · exact absurd h (by simp)
      · exact absurd h (by simp)
    · exact absurd h (by simp)
  case call c =>
    have argm : ∀ y, y ∈ c.args.toList → y ∈ c.operands.toList := fun y hy => by
      simp only [Call.operands, Array.toList_append, List.mem_append]; exact .inr hy
    split at h
    · split at h
      · rename_i x y hargs hb
        split at h
        · obtain ⟨M1, c1, h, k1⟩ := appendV_l h
          exact ⟨_, _, h, k1.mono (fun z hz => touch_op (x := x) (argm x (by rw [hargs]; simp)) (touch_refs hz))⟩
        · exact absurd h (by simp)
      · exact absurd h (by simp)
    · unfold fnOf at h
      split at h
      · simp only at h
        split at h
        · rename_i sg fn _ _
          obtain ⟨M1, as, ids, h, k1, j1⟩ := handAll_l h
          have big : ∀ x, (x ∈ ((c.args.toList.map ρ).zip (sg.tys fn)).flatMap fun p => touch M p.1) → x ∈ c.operands.toList.flatMap fun x => touch M (ρ x) := by
            intro x hx
            rw [List.mem_flatMap] at hx
            obtain ⟨p, hp, hx⟩ := hx
            have hp1 := (List.of_mem_zip hp).1
            rw [List.mem_map] at hp1
            obtain ⟨y, hy, e⟩ := hp1
            rw [← e] at hx
            exact touch_op (x := y) (argm y hy) hx
          split at h
          · split at h
            · obtain ⟨v, _, h⟩ := some_u (f := fun R K => sg.res.chk _ K) (fun R K => chkS_b K) h
              obtain ⟨outs, _, h⟩ := some_u (f := fun R K => chkL1 sg.outs _ K) (fun R K => chkL1_b K) h
              obtain ⟨M2, h, k2⟩ := backAll_l (c.operands.toList.flatMap fun x => touch M (ρ x)) (fun x hx => big x (j1 x hx)) h
              refine ⟨_, _, h, ((k1.loc.mono big).trans (Loc.trans ?_ k2)).trans layRes_l⟩
              split
              · exact .refl
              · refine freezeIds_l (fun x hx => ?_)
                obtain ⟨u, hu, hx⟩ := lent_refs hx
                rw [List.mem_map] at hu
                obtain ⟨y, hy, rfl⟩ := hu
                exact touch_op (x := y) (argm y hy) (touch_refs hx)
            · exact absurd h (by simp)
          · exact absurd h (by simp)
        · exact absurd h (by simp)
      · exact absurd h (by simp)
    · exact absurd h (by simp)

/-! ## one operation, as a step -/
/-- the places and the value that an operation yields -/
def istep (E : Env) (cf : CallF) (M : List V) (ρ : Operand → V) (o : Oper) : Option (List V × V) :=
  if isSimple E M ρ o then iopS E cf M ρ o fun v => some (M, v) else iopP E cf M ρ o fun M v => some (M, v)
theorem iop_istep {s : St} {o : Oper} (K : St → Option R) : iop E cf s o K = (istep E cf s.M s.eval o).bind fun p => K ({ s with M := p.1 }.put o.dst p.2) := by
  rw [iop_eq]
  unfold istep
  split
  · rw [← iopS_n]; rfl
  · rw [iopH_eq, ← iopP_n]; rfl
theorem istep_congr {o : Oper} {ρ ρ' : Operand → V} (h : ∀ x, x ∈ o.op.operands → ρ' x = ρ x) : istep E cf M ρ' o = istep E cf M ρ o := by
  unfold istep
  rw [isSimple_congr h, iopS_congr h, iopP_congr h]
theorem istep_read {o : Oper} {ρ : Operand → V} {p : List V × V} (hr : isRead E M ρ o = true) (hs : istep E cf M ρ o = some p) :
    p.1 = M ∧ ∀ M' : List V, (∀ x, x ∈ o.op.operands → ∀ id, id ∈ refs (ρ x) → pl M id ≠ .dead → pl M' id = pl M id) → isRead E M' ρ o = true ∧ istep E cf M' ρ o = some (M', p.2) := by
  unfold isRead at hr
  rw [Bool.and_eq_true, Bool.not_eq_true'] at hr
  unfold istep at hs
  rw [if_pos hr.2, iopS_b] at hs
  obtain ⟨c, hc, e⟩ := Option.bind_eq_some_iff.1 hs
  cases e
  refine ⟨rfl, fun M' hM => ?_⟩
  have h1 := isSimple_m (M' := M') hr.1 hM hr.2
  have h2 := iopS_m (M' := M') hr.1 hM hc
  refine ⟨by unfold isRead; rw [h1, hr.1]; rfl, ?_⟩
  unfold istep
  rw [if_pos h1, iopS_b, h2]; rfl
theorem istep_loc {o : Oper} {ρ : Operand → V} {p : List V × V} (hs : istep E cf M ρ o = some p) : Loc M p.1 (o.op.operands.toList.flatMap fun x => touch M (ρ x)) := by
  unfold istep at hs
  split at hs
  · rw [iopS_b] at hs
    obtain ⟨c, hc, e⟩ := Option.bind_eq_some_iff.1 hs
    cases e
    exact .refl
  · obtain ⟨M', c, e, k⟩ := iopP_l hs
    cases e
    exact k
end
end Go.Proofs.Ytfkkigbbejhfbaa.Idl
