/- The same, for operations on places. -/
import Derived.Test.YtfkkigbbejhfbaaSound23
namespace Go.Proofs.Ytfkkigbbejhfbaa.Idl
open Go
section
variable {R R' : Type} (h : R → Option R')

theorem nat_of {α : Type} {f : ∀ R : Type, (α → Option R) → Option R} (hf : ∀ (R : Type) (K : α → Option R), f R K = (f α some).bind K) (k : α → Option R) : f R' (fun a => (k a).bind h) = (f R k).bind h := by
  rw [hf R', hf R]
  cases f α some <;> rfl

theorem get_n {a : Arr V} {i : Nat} (k : V → Option R) : (a.get i fun v => (k v).bind h) = (a.get i k).bind h := nat_of h (f := fun R K => a.get i K) (fun R K => get_b K) k
theorem app_n {a b : Arr V} (k : Arr V → Option R) : (a.app b fun v => (k v).bind h) = (a.app b k).bind h := nat_of h (f := fun R K => a.app b K) (fun R K => app_b K) k
theorem set_n {a : Arr V} {i off : Nat} {v : V} (k : Arr V → Option R) : (a.set i off v fun v => (k v).bind h) = (a.set i off v k).bind h := nat_of h (f := fun R K => a.set i off v K) (fun R K => set_b K) k
theorem chkS_n {l : Sh} {v : V} (k : V → Option R) : (l.chk v fun v => (k v).bind h) = (l.chk v k).bind h := nat_of h (f := fun R K => l.chk v K) (fun R K => chkS_b K) k
theorem chkL1_n {l : List S1} {v : List V} (k : List V → Option R) : (chkL1 l v fun v => (k v).bind h) = (chkL1 l v k).bind h := nat_of h (f := fun R K => chkL1 l v K) (fun R K => chkL1_b K) k
theorem sliceOf_n {M : List V} {v : V} (k : Arr V → Option R) : (sliceOf M v fun v => (k v).bind h) = (sliceOf M v k).bind h := nat_of h (f := fun R K => sliceOf M v K) (fun R K => sliceOf_b K) k
theorem lend_n {E : Env} {M : List V} {t : Nat} {v : V} (k : V → Option R) : (lend E M t v fun v => (k v).bind h) = (lend E M t v k).bind h := nat_of h (f := fun R K => lend E M t v K) (fun R K => lend_b K) k
theorem sliceV_n {E : Env} {M : List V} {t : Nat} {x : V} {lo hi mx : Option V} (k : V → Option R) : (sliceV E M t x lo hi mx fun v => (k v).bind h) = (sliceV E M t x lo hi mx k).bind h := nat_of h (f := fun R K => sliceV E M t x lo hi mx K) (fun R K => sliceV_b K) k
theorem iopS_n {E : Env} {cf : CallF} {M : List V} {ρ : Operand → V} {o : Oper} (k : V → Option R) : (iopS E cf M ρ o fun v => (k v).bind h) = (iopS E cf M ρ o k).bind h := nat_of h (f := fun R K => iopS E cf M ρ o K) (fun R K => iopS_b K) k

theorem share1_n {M : List V} {v : V} (k : List V → V → Option R) : (share1 M v fun M v => (k M v).bind h) = (share1 M v k).bind h := by
  unfold share1; (repeat' split) <;> rfl
theorem shareL_n : ∀ {R R' : Type} (h : R → Option R') {M l : List V} (k : List V → List V → Option R), (shareL M l fun M v => (k M v).bind h) = (shareL M l k).bind h
  | _, _, h, M, [], k => rfl
  | _, _, h, M, v :: l, k => by simp only [shareL, shareL_n h, share1_n]
theorem share_n {M : List V} {v : V} (k : List V → V → Option R) : (share M v fun M v => (k M v).bind h) = (share M v k).bind h := by
  unfold share; (repeat' split) <;> first | rfl | exact share1_n h k | exact shareL_n h _
theorem shareAll_n : ∀ {R R' : Type} (h : R → Option R') {M l : List V} (k : List V → List V → Option R), (shareAll M l fun M v => (k M v).bind h) = (shareAll M l k).bind h
  | _, _, h, M, [], k => rfl
  | _, _, h, M, v :: l, k => by simp only [shareAll, shareAll_n h, share_n]
theorem take1_n {M : List V} {v : V} (k : List V → V → Option R) : (take1 M v fun M v => (k M v).bind h) = (take1 M v k).bind h := by
  unfold take1; (repeat' split) <;> rfl
theorem takeL_n : ∀ {R R' : Type} (h : R → Option R') {M l : List V} (k : List V → List V → Option R), (takeL M l fun M v => (k M v).bind h) = (takeL M l k).bind h
  | _, _, h, M, [], k => rfl
  | _, _, h, M, v :: l, k => by simp only [takeL, takeL_n h, take1_n]
theorem handArg_n {E : Env} {M : List V} {v : V} {t : Nat} (k : List V → V → List Nat → Option R) : (handArg E M v t fun M v ids => (k M v ids).bind h) = (handArg E M v t k).bind h := by
  unfold handArg; (repeat' split) <;> first | rfl | exact takeL_n h _ | exact lend_n h _
theorem handAll_n {E : Env} : ∀ {R R' : Type} (h : R → Option R') {M : List V} {l : List (V × Nat)} (k : List V → List V → List Nat → Option R), (handAll E M l fun M v ids => (k M v ids).bind h) = (handAll E M l k).bind h
  | _, _, h, M, [], k => rfl
  | _, _, h, M, (v, t) :: l, k => by simp only [handAll, handAll_n h, handArg_n]
theorem backAll_n : ∀ {R R' : Type} (h : R → Option R') {M : List V} {ids : List Nat} {vs : List V} (k : List V → Option R), (backAll M ids vs fun M => (k M).bind h) = (backAll M ids vs k).bind h
  | _, _, h, M, [], [], k => rfl
  | _, _, h, M, [], _ :: _, k => rfl
  | _, _, h, M, id :: ids, [], k => rfl
  | _, _, h, M, id :: ids, v :: vs, k => by
    cases v with
    | pt l => simp only [backAll, backAll_n h]
    | _ => rfl
theorem ofParts_n {te : TI} : ∀ {R R' : Type} (h : R → Option R') {l : List (Nat × V)} {i : Nat} (k : List V → Option R), (ofParts te l i fun M => (k M).bind h) = (ofParts te l i k).bind h
  | _, _, h, [], i, k => rfl
  | _, _, h, (j, v) :: l, i, k => by
    simp only [ofParts]
    split
    · exact ofParts_n h _
    · rfl
theorem asInts_n {kk : IntKind} : ∀ {R R' : Type} (h : R → Option R') {l : List V} (k : List Int → Option R), (asInts kk l fun M => (k M).bind h) = (asInts kk l k).bind h
  | _, _, h, [], k => rfl
  | _, _, h, v :: l, k => by
    cases v with
    | int k' n =>
      simp only [asInts]
      split
      · exact asInts_n h _
      · rfl
    | _ => rfl
theorem asBools_n : ∀ {R R' : Type} (h : R → Option R') {l : List V} (k : List Bool → Option R), (asBools l fun M => (k M).bind h) = (asBools l k).bind h
  | _, _, h, [], k => rfl
  | _, _, h, v :: l, k => by
    cases v with
    | bool n => simp only [asBools]; exact asBools_n h (l := l) _
    | _ => rfl
theorem asStrs_n : ∀ {R R' : Type} (h : R → Option R') {l : List V} (k : List ByteArray → Option R), (asStrs l fun M => (k M).bind h) = (asStrs l k).bind h
  | _, _, h, [], k => rfl
  | _, _, h, v :: l, k => by
    cases v with
    | str n => simp only [asStrs]; exact asStrs_n h (l := l) _
    | _ => rfl
theorem ofL_n {e : EK} {l : List V} (k : Arr V → Option R) : (ofL e l fun M => (k M).bind h) = (ofL e l k).bind h := by
  unfold ofL; split
  · exact asInts_n h _
  · exact asBools_n h _
  · exact asStrs_n h _
  · rfl
theorem zeros_n {te : TI} {n : Nat} (k : Arr V → Option R) : (zeros te n fun M => (k M).bind h) = (zeros te n k).bind h := by
  unfold zeros; (repeat' split) <;> first | rfl | (simp_all; done)
theorem typed_n {E : Env} {M : List V} {t : Nat} {v : V} (k : List V → V → Option R) : (typed E M t v fun M v => (k M v).bind h) = (typed E M t v k).bind h := by
  unfold typed; (repeat' split) <;> rfl
theorem setCells_n {cs vs : List V} {off : Nat} (k : List V → Option R) : (setCells cs off vs fun M => (k M).bind h) = (setCells cs off vs k).bind h := by
  unfold setCells; (repeat' split) <;> rfl
theorem appendV_n {E : Env} {M0 : List V} {t u : Nat} {x y : V} (k : List V → V → Option R) : (appendV E M0 t u x y fun M v => (k M v).bind h) = (appendV E M0 t u x y k).bind h := by
  unfold appendV
  split
  · rfl
  · split
    · rw [← typed_n]
      congr 1
      funext M v
      (repeat' split) <;> first | rfl | skip
      · rw [← sliceOf_n]
        congr 1
        funext b
        split
        · exact app_n h _
        · rfl
      · rw [← sliceOf_n]
        congr 1
        funext b
        split
        · exact app_n h _
        · rfl
    · rfl
theorem iopP_n {E : Env} {cf : CallF} {M0 : List V} {ρ : Operand → V} {o : Oper} (k : List V → V → Option R) : (iopP E cf M0 ρ o fun M v => (k M v).bind h) = (iopP E cf M0 ρ o k).bind h := by
  unfold iopP
  cases o.op <;> simp only
  all_goals first | rfl | skip
  case assign x => exact typed_n h _
  case alloc t => split <;> rfl
  case box t x =>
    split
    · rw [← typed_n]
      congr 1
      funext M v
      split <;> rfl
    · rfl
  case store t d x =>
    split
    · rw [← typed_n]
      congr 1
      funext M v
      split
      · split
        · split
          · exact setCells_n h _
          · rfl
        · split
          · split
            · rw [← share_n]
              congr 1
              funext M v
              split
              · rw [← set_n]
                congr 1
                funext ar
                split <;> rfl
              · rfl
            · rfl
          · rfl
        · rfl
      · rfl
    · rfl
  case buildSlice t n ps =>
    split
    · rw [← shareAll_n]
      congr 1
      funext M vs
      rw [← ofParts_n]
      congr 1
      funext vs
      split
      · exact ofL_n h _
      · rfl
    · rfl
  case makeSlice t l c =>
    split
    · split
      · exact zeros_n h _
      · rfl
    · rfl
  case slice t x lo hi mx =>
    split
    · split
      · exact sliceV_n h _
      · rfl
    · rfl
  case makeFunc f first cap =>
    split
    · split
      · rw [← shareAll_n]
        congr 1
        funext M vs
        split <;> rfl
      · rfl
    · rfl
  case call c =>
    split
    · split
      · split
        · exact appendV_n h _
        · rfl
      · rfl
    · rename_i f _
      unfold fnOf
      split
      · simp only
        split
        · rw [← handAll_n]
          congr 1
          funext M as ids
          split
          · split
            · rw [← chkS_n]
              congr 1
              funext v
              rw [← chkL1_n]
              congr 1
              funext outs
              exact backAll_n h _
            · rfl
          · rfl
        · rfl
      · rfl
    · rfl
theorem iopH_n {E : Env} {cf : CallF} {s : St} {o : Oper} (k : St → Option R) : (iopH E cf s o fun s => (k s).bind h) = (iopH E cf s o k).bind h := by rw [iopH_eq, iopH_eq]; exact iopP_n h _
theorem iop_n {E : Env} {cf : CallF} {s : St} {o : Oper} (k : St → Option R) : (iop E cf s o fun s => (k s).bind h) = (iop E cf s o k).bind h := by
  simp only [iop_eq]
  split
  · exact iopS_n h _
  · exact iopH_n h _
theorem iop_some {E : Env} {cf : CallF} {s : St} {o : Oper} (K : St → Option R) : iop E cf s o K = (iop E cf s o some).bind K := by
  rw [← iop_n]; rfl
end
end Go.Proofs.Ytfkkigbbejhfbaa.Idl
