/- On what an operation hangs, and what it changes. -/
import Derived.Test.YtfkkigbbejhfbaaSound24
namespace Go.Proofs.Ytfkkigbbejhfbaa.Idl
open Go
section
variable {R : Type} {E : Env} {cf : CallF} {M M' : List V}

/-! ### operands -/
theorem call_args {c : Call} {ρ ρ' : Operand → V} (h : ∀ x, x ∈ c.operands → ρ' x = ρ x) : (∀ f, c.callee = .value f → ρ' f = ρ f) ∧ ∀ x, x ∈ c.args.toList → ρ' x = ρ x :=
  ⟨fun f hf => h f (by simp [Call.operands, hf]), fun x hx => h x (by simp only [Call.operands, Array.mem_append]; exact .inr (Array.mem_toList_iff.1 hx))⟩
theorem map_args {l : List Operand} {ρ ρ' : Operand → V} (h : ∀ x, x ∈ l → ρ' x = ρ x) : l.map ρ' = l.map ρ := List.map_congr_left h
theorem map_opt {l : Option Operand} {ρ ρ' : Operand → V} (h : ∀ x, l = some x → ρ' x = ρ x) : l.map ρ' = l.map ρ := by
  cases l with
  | none => rfl
  | some x => simp [h x rfl]
theorem any_args {l : Array Operand} {f g : Operand → Bool} (h : ∀ x, x ∈ l → f x = g x) : l.any f = l.any g := by
  rw [Bool.eq_iff_iff, Array.any_eq_true', Array.any_eq_true']
  constructor
  · rintro ⟨x, hx, e⟩; exact ⟨x, hx, by rw [← h x hx]; exact e⟩
  · rintro ⟨x, hx, e⟩; exact ⟨x, hx, by rw [h x hx]; exact e⟩
theorem all_args {l : Array Operand} {f g : Operand → Bool} (h : ∀ x, x ∈ l → f x = g x) : l.all f = l.all g := by
  rw [Bool.eq_iff_iff, Array.all_eq_true_iff_forall_mem, Array.all_eq_true_iff_forall_mem]
  constructor
  · intro e x hx; rw [← h x hx]; exact e x hx
  · intro e x hx; rw [h x hx]; exact e x hx

theorem isSimple_congr {o : Oper} {ρ ρ' : Operand → V} (h : ∀ x, x ∈ o.op.operands → ρ' x = ρ x) : isSimple E M ρ' o = isSimple E M ρ o := by
  obtain ⟨dst, op, ty, pos, after, guard⟩ := o
  cases op <;> simp only [isSimple, Op.operands] at h ⊢
  case assign x => rw [h x (by simp)]
  case slice t x lo hi mx => rw [h x (by simp)]
  case makeFunc f first cap =>
    congr 1
    exact all_args (fun x hx => by rw [h x (by simp [hx])])
  case call c =>
    obtain ⟨h1, h2⟩ := call_args h
    cases hc : c.callee with
    | builtin b => rfl
    | value f =>
      simp only
      rw [h1 f hc, any_args (f := fun x => ownObj M (ρ' x)) (g := fun x => ownObj M (ρ x)) (fun x hx => by rw [h2 x (by simpa using hx)]), any_args (f := fun x => lentOwn M (ρ' x)) (g := fun x => lentOwn M (ρ x)) (fun x hx => by rw [h2 x (by simpa using hx)])]
    | invoke x y => rfl

theorem iopS_congr {o : Oper} {ρ ρ' : Operand → V} (h : ∀ x, x ∈ o.op.operands → ρ' x = ρ x) (K : V → Option R) : iopS E cf M ρ' o K = iopS E cf M ρ o K := by
  obtain ⟨dst, op, ty, pos, after, guard⟩ := o
  cases op <;> simp only [iopS, Op.operands] at h ⊢
  case move x => rw [h x (by simp)]
  case assign x => rw [h x (by simp)]
  case pick c x y => rw [h c (by simp), h x (by simp), h y (by simp)]
  case binOp op t x y z => rw [h x (by simp), h y (by simp)]
  case unOp op t x => rw [h x (by simp)]
  case convert s d x => rw [h x (by simp)]
  case load t x => rw [h x (by simp)]
  case nilCheck x => rw [h x (by simp)]
  case fieldAddr t x f => rw [h x (by simp)]
  case field t x f => rw [h x (by simp)]
  case indexAddr t x i => rw [h x (by simp), h i (by simp)]
  case index t x i => rw [h x (by simp), h i (by simp)]
  case extract x i => rw [h x (by simp)]
  case slice t x lo hi mx => rw [h x (by simp), map_opt (l := lo) (fun y hy => h y (by simp [hy])), map_opt (l := hi) (fun y hy => h y (by simp [hy])), map_opt (l := mx) (fun y hy => h y (by simp [hy]))]
  case build t ps =>
    rw [show (ps.toList.map fun p => (p.1, ρ' p.2)) = ps.toList.map fun p => (p.1, ρ p.2) from List.map_congr_left (fun p hp => by
      rw [h p.2 (by simp only [List.mem_toArray, List.mem_map]; exact ⟨p, hp, rfl⟩)])]
  case makeFunc f first cap => rw [map_args (l := cap.toList) (fun x hx => h x (by simp only [Array.mem_append]; exact .inr (Array.mem_toList_iff.1 hx)))]
  case call c =>
    obtain ⟨h1, h2⟩ := call_args h
    cases hc : c.callee with
    | builtin b =>
      simp only
      split
      · rename_i x hargs; rw [h2 x (by rw [hargs]; simp)]
      · rename_i x y hargs; rw [h2 x (by rw [hargs]; simp), h2 y (by rw [hargs]; simp)]
      · rename_i x y hargs; rw [h2 x (by rw [hargs]; simp), h2 y (by rw [hargs]; simp)]
      · rfl
    | value f => simp only; rw [h1 f hc, map_args h2]
    | invoke x y => rfl

theorem iopP_congr {o : Oper} {ρ ρ' : Operand → V} (h : ∀ x, x ∈ o.op.operands → ρ' x = ρ x) (K : List V → V → Option R) : iopP E cf M ρ' o K = iopP E cf M ρ o K := by
  obtain ⟨dst, op, ty, pos, after, guard⟩ := o
  cases op <;> simp only [iopP, Op.operands] at h ⊢
  case assign x => rw [h x (by simp)]
  case box t x => rw [h x (by simp)]
  case store t d x => rw [h x (by simp), h d (by simp)]
  case buildSlice t n ps =>
    rw [show (ps.toList.map fun p => ρ' p.2) = ps.toList.map fun p => ρ p.2 from List.map_congr_left (fun p hp => by
      rw [h p.2 (by simp only [List.mem_toArray, List.mem_map]; exact ⟨p, hp, rfl⟩)])]
  case makeSlice t x y => rw [h x (by simp), h y (by simp)]
  case slice t x lo hi mx => rw [h x (by simp), map_opt (l := lo) (fun y hy => h y (by simp [hy])), map_opt (l := hi) (fun y hy => h y (by simp [hy])), map_opt (l := mx) (fun y hy => h y (by simp [hy]))]
  case makeFunc f first cap => rw [map_args (l := cap.toList) (fun x hx => h x (by simp only [Array.mem_append]; exact .inr (Array.mem_toList_iff.1 hx)))]
  case call c =>
    obtain ⟨h1, h2⟩ := call_args h
    cases hc : c.callee with
    | builtin b =>
      simp only
      split
      · rename_i x y hargs; rw [h2 x (by rw [hargs]; simp), h2 y (by rw [hargs]; simp)]
      · rfl
    | value f => simp only; rw [h1 f hc, map_args h2]
    | invoke x y => rfl

/-! ### what a read looks at -/
theorem convV_m {s d : Nat} {x c : V} (hM : ∀ id, id ∈ refs x → pl M id ≠ .dead → pl M' id = pl M id) (h : convV E M s d x some = some c) : convV E M' s d x some = some c := by
  unfold convV at h ⊢
  (repeat' split at h) <;> simp_all [refs, refs1]
theorem loadV_m {t : Nat} {x c : V} (hM : ∀ id, id ∈ refs x → pl M id ≠ .dead → pl M' id = pl M id) (h : loadV E M t x some = some c) : loadV E M' t x some = some c := by
  unfold loadV at h ⊢
  (repeat' split at h) <;> simp_all [refs, refs1]
theorem fieldAddrV_m {t f : Nat} {x c : V} (hM : ∀ id, id ∈ refs x → pl M id ≠ .dead → pl M' id = pl M id) (h : fieldAddrV E M t x f some = some c) : fieldAddrV E M' t x f some = some c := by
  unfold fieldAddrV at h ⊢
  (repeat' split at h) <;> simp_all [refs, refs1]
theorem indexAddrV_m {t : Nat} {x i c : V} (hM : ∀ id, id ∈ refs x → pl M id ≠ .dead → pl M' id = pl M id) (h : indexAddrV E M t x i some = some c) : indexAddrV E M' t x i some = some c := by
  unfold indexAddrV at h ⊢
  (repeat' split at h) <;> simp_all [refs, refs1]
theorem sliceV_m {t : Nat} {x c : V} {lo hi mx : Option V} (hM : ∀ id, id ∈ refs x → pl M id ≠ .dead → pl M' id = pl M id) (h : sliceV E M t x lo hi mx some = some c) : sliceV E M' t x lo hi mx some = some c := by
  unfold sliceV at h ⊢
  (repeat' split at h) <;> simp_all [refs, refs1]
theorem lenV_m {x c : V} (hM : ∀ id, id ∈ refs x → pl M id ≠ .dead → pl M' id = pl M id) (h : lenV M x some = some c) : lenV M' x some = some c := by
  unfold lenV at h ⊢
  (repeat' split at h) <;> simp_all [refs, refs1]
theorem iopS_m {ρ : Operand → V} {o : Oper} {c : V} (hg : isGoCall o = false) (hM : ∀ x, x ∈ o.op.operands → ∀ id, id ∈ refs (ρ x) → pl M id ≠ .dead → pl M' id = pl M id) (h : iopS E cf M ρ o some = some c) : iopS E cf M' ρ o some = some c := by
  obtain ⟨dst, op, ty, pos, after, guard⟩ := o
  cases op <;> simp only [iopS, Op.operands] at h hM ⊢ <;> try exact h
  case convert s d x => exact convV_m (hM x (by simp)) h
  case load t x => exact loadV_m (hM x (by simp)) h
  case fieldAddr t x f => exact fieldAddrV_m (hM x (by simp)) h
  case indexAddr t x i => exact indexAddrV_m (hM x (by simp)) h
  case slice t x lo hi mx => exact sliceV_m (hM x (by simp)) h
  case call c =>
    cases hc : c.callee with
    | builtin b =>
      simp only [hc] at h ⊢
      split at h <;> try exact h
      rename_i x hargs
      split at h <;> try exact h
      split at h
      · rename_i hl
        rw [if_pos hl]
        refine lenV_m (hM x ?_) h
        have hx : x ∈ c.args := Array.mem_toList_iff.1 (by rw [hargs]; simp)
        simp only [Call.operands, Array.mem_append]
        exact .inr hx
      · exact absurd h (by simp)
    | value f => simp [isGoCall, hc] at hg
    | invoke x y => simp [isGoCall, hc] at hg
theorem isSimple_m {ρ : Operand → V} {o : Oper} (hg : isGoCall o = false) (hM : ∀ x, x ∈ o.op.operands → ∀ id, id ∈ refs (ρ x) → pl M id ≠ .dead → pl M' id = pl M id) (h : isSimple E M ρ o = true) : isSimple E M' ρ o = true := by
  obtain ⟨dst, op, ty, pos, after, guard⟩ := o
  cases op <;> simp only [isSimple, Op.operands] at h hM ⊢ <;> try exact h
  case slice t x lo hi mx =>
    have := hM x (by simp)
    (repeat' split at h) <;> simp_all [refs, refs1]
  case call c =>
    cases hc : c.callee with
    | builtin b => simp only [hc] at h ⊢; exact h
    | value f => simp [isGoCall, hc] at hg
    | invoke x y => simp [isGoCall, hc] at hg
end
end Go.Proofs.Ytfkkigbbejhfbaa.Idl
