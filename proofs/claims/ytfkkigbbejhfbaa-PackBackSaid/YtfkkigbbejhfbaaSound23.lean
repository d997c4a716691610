/- Whoever asks, the same is handed on: each step of the ideal interpreter is a function, followed by what is to be done with its result. -/
import Derived.Test.YtfkkigbbejhfbaaSound22
namespace Go.Proofs.Ytfkkigbbejhfbaa.Idl
open Go
section
variable {R : Type}

theorem comp_b {α β R : Type} {f : ∀ R : Type, (α → Option R) → Option R} (hf : ∀ (R : Type) (K : α → Option R), f R K = (f α some).bind K) {g : ∀ R : Type, α → (β → Option R) → Option R}
    (hg : ∀ (a : α) (R : Type) (K : β → Option R), g R a K = (g β a some).bind K) (K : β → Option R) : f R (fun a => g R a K) = (f β (fun a => g β a some)).bind K := by
  rw [hf, hf β]
  cases f α some with
  | none => rfl
  | some a => exact hg a R K
theorem map_b {α β R : Type} {f : ∀ R : Type, (α → Option R) → Option R} (hf : ∀ (R : Type) (K : α → Option R), f R K = (f α some).bind K) (g : α → β) (K : β → Option R) : f R (fun a => K (g a)) = (f β (fun a => some (g a))).bind K :=
  comp_b hf (g := fun R a K => K (g a)) (fun _ _ _ => rfl) K
def some2 {α β : Type} (a : α) (b : β) : Option (α × β) := some (a, b)
def some3 {α β γ : Type} (a : α) (b : β) (c : γ) : Option (α × β × γ) := some (a, b, c)
def un2 {α β R : Type} (K : α → β → Option R) (p : α × β) : Option R := K p.1 p.2
def un3 {α β γ R : Type} (K : α → β → γ → Option R) (p : α × β × γ) : Option R := K p.1 p.2.1 p.2.2

theorem asInt_b {k : IntKind} {v : V} (K : Int → Option R) : v.asInt k K = (v.asInt k some).bind K := by
  unfold V.asInt; ((repeat' split) <;> first | rfl | (simp_all; done))
theorem asBool_b {v : V} (K : Bool → Option R) : v.asBool K = (v.asBool some).bind K := by
  unfold V.asBool; ((repeat' split) <;> first | rfl | (simp_all; done))
theorem asStr_b {v : V} (K : ByteArray → Option R) : v.asStr K = (v.asStr some).bind K := by
  unfold V.asStr; ((repeat' split) <;> first | rfl | (simp_all; done))
theorem as_b {a : Arr V} {e : EK} (K : Arr V → Option R) : a.as e K = (a.as e some).bind K := by
  unfold Arr.as; ((repeat' split) <;> first | rfl | (simp_all; done))
theorem asSl_b {o : Bool} {e : EK} {v : V} (K : Arr V → Option R) : v.asSl o e K = (v.asSl o e some).bind K := by
  unfold V.asSl; (repeat' split) <;> first | rfl | exact as_b K
theorem chk1_b {l : SL} {v : V} (K : V → Option R) : l.chk v K = (l.chk v some).bind K := by
  cases l with
  | any => rfl
  | int k => simp only [SL.chk]; exact map_b (f := fun R K => v.asInt k K) (fun R K => asInt_b K) _ K
  | bool => simp only [SL.chk]; exact map_b (f := fun R K => v.asBool K) (fun R K => asBool_b K) _ K
  | str => simp only [SL.chk]; exact map_b (f := fun R K => v.asStr K) (fun R K => asStr_b K) _ K
  | sl o e => simp only [SL.chk]; exact map_b (f := fun R K => v.asSl o e K) (fun R K => asSl_b K) _ K
theorem chkL_b' : ∀ {l : List SL} {vs : List V} (R : Type) (K : List V → Option R), chkL l vs K = (chkL l vs some).bind K
  | [], [], _, _ => rfl
  | [], _ :: _, _, _ => rfl
  | _ :: _, [], _, _ => rfl
  | l :: ls, v :: vs, R, K => by
    simp only [chkL, seeCons, seeNil]
    exact comp_b (f := fun R K => l.chk v K) (fun R K => chk1_b K) (g := fun R v' K => chkL ls vs fun vs' => K (v' :: vs')) (fun v' R K => map_b (f := fun R K => chkL ls vs K) (fun R K => chkL_b' R K) _ K) K
theorem chkL_b {l : List SL} {vs : List V} (K : List V → Option R) : chkL l vs K = (chkL l vs some).bind K := chkL_b' R K
theorem chkA_b {l : S1} {v : V} (K : V → Option R) : l.chk v K = (l.chk v some).bind K := by
  cases l with
  | leaf s => exact chk1_b K
  | agg l => 
    simp only [S1.chk, V.asAgg]
    split
    · exact map_b (f := fun R K => chkL l _ K) (fun R K => chkL_b K) _ K
    · rfl
  | pt l =>
    simp only [S1.chk, V.asPt]
    split
    · exact map_b (f := fun R K => chkL l _ K) (fun R K => chkL_b K) _ K
    · rfl
  | pv l =>
    simp only [S1.chk, V.asPv]
    split
    · split
      · exact map_b (f := fun R K => chkL l _ K) (fun R K => chkL_b K) _ K
      · rfl
    · rfl
theorem chkL1_b' : ∀ {l : List S1} {vs : List V} (R : Type) (K : List V → Option R), chkL1 l vs K = (chkL1 l vs some).bind K
  | [], [], _, _ => rfl
  | [], _ :: _, _, _ => rfl
  | _ :: _, [], _, _ => rfl
  | l :: ls, v :: vs, R, K => by
    simp only [chkL1, seeCons, seeNil]
    exact comp_b (f := fun R K => l.chk v K) (fun R K => chkA_b K) (g := fun R v' K => chkL1 ls vs fun vs' => K (v' :: vs')) (fun v' R K => map_b (f := fun R K => chkL1 ls vs K) (fun R K => chkL1_b' R K) _ K) K
theorem chkL1_b {l : List S1} {vs : List V} (K : List V → Option R) : chkL1 l vs K = (chkL1 l vs some).bind K := chkL1_b' R K
theorem chkS_b {l : Sh} {v : V} (K : V → Option R) : l.chk v K = (l.chk v some).bind K := by
  cases l with
  | one s => exact chkA_b K
  | tup l =>
    simp only [Sh.chk, V.asTup]
    split
    · exact map_b (f := fun R K => chkL1 l _ K) (fun R K => chkL1_b K) _ K
    · rfl

theorem get_b {a : Arr V} {i : Nat} (K : V → Option R) : a.get i K = (a.get i some).bind K := by
  unfold Arr.get; ((repeat' split) <;> first | rfl | (simp_all; done))
theorem app_b {a b : Arr V} (K : Arr V → Option R) : a.app b K = (a.app b some).bind K := by
  unfold Arr.app; ((repeat' split) <;> first | rfl | (simp_all; done))
theorem set_b {a : Arr V} {i off : Nat} {v : V} (K : Arr V → Option R) : a.set i off v K = (a.set i off v some).bind K := by
  unfold Arr.set; ((repeat' split) <;> first | rfl | (simp_all; done))
theorem intOp_b {op : BinOp} {k : IntKind} {a b : Int} (K : V → Option R) : intOp op k a b K = (intOp op k a b some).bind K := by
  unfold intOp; ((repeat' split) <;> first | rfl | (simp_all; done))
theorem shiftOp_b {op : BinOp} {k : IntKind} {a b : Int} (K : V → Option R) : shiftOp op k a b K = (shiftOp op k a b some).bind K := by
  unfold shiftOp; ((repeat' split) <;> first | rfl | (simp_all; done))
theorem strOp_b {op : BinOp} {a b : ByteArray} (K : V → Option R) : strOp op a b K = (strOp op a b some).bind K := by
  unfold strOp; ((repeat' split) <;> first | rfl | (simp_all; done))
theorem binOpV_b {E : Env} {op : BinOp} {t : Nat} {x y : V} (K : V → Option R) : binOpV E op t x y K = (binOpV E op t x y some).bind K := by
  unfold binOpV; (repeat' split) <;> first | rfl | exact shiftOp_b K | exact intOp_b K | exact strOp_b K | (simp_all; done)
theorem unOpV_b {op : UnOp} {x : V} (K : V → Option R) : unOpV op x K = (unOpV op x some).bind K := by
  unfold unOpV; ((repeat' split) <;> first | rfl | (simp_all; done))
theorem pickV_b {c x y : V} (K : V → Option R) : pickV c x y K = (pickV c x y some).bind K := by
  unfold pickV
  split
  · rename_i b; cases b <;> rfl
  · rfl
theorem fromCells_b {ti : TI} {l : List V} {off : Nat} (K : V → Option R) : fromCells ti l off K = (fromCells ti l off some).bind K := by
  unfold fromCells; ((repeat' split) <;> first | rfl | (simp_all; done))
theorem optInt_b {x : Option V} {d : Int} (K : Int → Option R) : optInt x d K = (optInt x d some).bind K := by
  unfold optInt; ((repeat' split) <;> first | rfl | (simp_all; done))
theorem sliceOf_b {M : List V} {v : V} (K : Arr V → Option R) : sliceOf M v K = (sliceOf M v some).bind K := by
  unfold sliceOf; ((repeat' split) <;> first | rfl | (simp_all; done))
theorem convV_b {E : Env} {M : List V} {s d : Nat} {x : V} (K : V → Option R) : convV E M s d x K = (convV E M s d x some).bind K := by
  unfold convV; ((repeat' split) <;> first | rfl | (simp_all; done))
theorem getChk_b {β : Type} {a : Arr V} {i : Nat} {sh : S1} {g : ∀ R : Type, V → (β → Option R) → Option R} (hg : ∀ (a : V) (R : Type) (K : β → Option R), g R a K = (g β a some).bind K) (K : β → Option R) :
    (a.get i fun v => sh.chk v fun v => g R v K) = (a.get i fun v => sh.chk v fun v => g β v some).bind K :=
  comp_b (f := fun R K => a.get i K) (fun R K => get_b K) (g := fun R v K => sh.chk v fun v => g R v K) (fun v R K => comp_b (f := fun R K => sh.chk v K) (fun R K => chkA_b K) (g := g) hg K) K
theorem loadV_b {E : Env} {M : List V} {t : Nat} {a : V} (K : V → Option R) : loadV E M t a K = (loadV E M t a some).bind K := by
  unfold loadV
  split
  · rfl
  · rename_i ti _
    (repeat' split) <;> first
      | rfl
      | exact fromCells_b K
      | (rename_i off _ _ _ _; exact getChk_b (g := fun R v K => fromCells ti v.cells off K) (fun v R K => fromCells_b K) K)
theorem fieldAddrV_b {E : Env} {M : List V} {t f : Nat} {x : V} (K : V → Option R) : fieldAddrV E M t x f K = (fieldAddrV E M t x f some).bind K := by
  unfold fieldAddrV; ((repeat' split) <;> first | rfl | (simp_all; done))
theorem fieldV_b {E : Env} {t f : Nat} {x : V} (K : V → Option R) : fieldV E t x f K = (fieldV E t x f some).bind K := by
  unfold fieldV; (repeat' split) <;> first | rfl | exact fromCells_b K
theorem indexAddrV_b {E : Env} {M : List V} {t : Nat} {x i : V} (K : V → Option R) : indexAddrV E M t x i K = (indexAddrV E M t x i some).bind K := by
  unfold indexAddrV
  (repeat' split) <;> first
    | rfl
    | exact getChk_b (g := fun R v K => K (.pv v.cells 0)) (fun v R K => rfl) K
theorem indexV_b {E : Env} {t : Nat} {x i : V} (K : V → Option R) : indexV E t x i K = (indexV E t x i some).bind K := by
  unfold indexV; ((repeat' split) <;> first | rfl | (simp_all; done))
theorem cutV_b {te : TI} {a : Arr V} {lo hi mx : Option V} (K : V → Option R) : cutV te a lo hi mx K = (cutV te a lo hi mx some).bind K := by
  unfold cutV
  split
  · rfl
  · refine comp_b (f := fun R K => optInt hi a.len K) (fun R K => optInt_b K) (g := fun R h K => _) (fun h R K => comp_b (f := fun R K => optInt lo 0 K) (fun R K => optInt_b K) (g := fun R l K => _) (fun l R K => comp_b (f := fun R K => optInt mx h K) (fun R K => optInt_b K) (g := fun R m K =>
      if 0 ≤ l ∧ l ≤ h ∧ h ≤ a.len ∧ m = h ∧ a.esz = te.size then K (.sl false (a.cut l.toNat h.toNat)) else none) (fun m R K => by split <;> rfl) K) K) K
theorem sliceV_b {E : Env} {M : List V} {t : Nat} {x : V} {lo hi mx : Option V} (K : V → Option R) : sliceV E M t x lo hi mx K = (sliceV E M t x lo hi mx some).bind K := by
  unfold sliceV
  (repeat' split) <;> first
    | rfl
    | exact cutV_b K
    | skip
  rename_i s _ _
  exact comp_b (f := fun R K => optInt hi s.size K) (fun R K => optInt_b K) (g := fun R h K => optInt lo 0 fun l => if 0 ≤ l ∧ l ≤ h ∧ h ≤ s.size then K (.str (s.extract l.toNat h.toNat)) else none)
    (fun h R K => comp_b (f := fun R K => optInt lo 0 K) (fun R K => optInt_b K) (g := fun R l K => if 0 ≤ l ∧ l ≤ h ∧ h ≤ s.size then K (.str (s.extract l.toNat h.toNat)) else none) (fun l R K => by split <;> rfl) K) K
theorem lenV_b {M : List V} {x : V} (K : V → Option R) : lenV M x K = (lenV M x some).bind K := by
  unfold lenV; ((repeat' split) <;> first | rfl | (simp_all; done))
theorem minInt_b {x y : V} (K : V → Option R) : minInt x y K = (minInt x y some).bind K := by
  unfold minInt; ((repeat' split) <;> first | rfl | (simp_all; done))
theorem maxInt_b {x y : V} (K : V → Option R) : maxInt x y K = (maxInt x y some).bind K := by
  unfold maxInt; ((repeat' split) <;> first | rfl | (simp_all; done))
theorem lend1_b {E : Env} {M : List V} {t : Nat} {v : V} (K : V → Option R) : lend1 E M t v K = (lend1 E M t v some).bind K := by
  unfold lend1; ((repeat' split) <;> first | rfl | (simp_all; done))
theorem lendL_b' {E : Env} {M : List V} : ∀ {l : List V} (R : Type) (K : List V → Option R), lendL M E l K = (lendL M E l some).bind K
  | [], R, K => rfl
  | v :: l, R, K => comp_b (f := fun R K => lend1 E M 0 v K) (fun R K => lend1_b K) (g := fun R v' K => lendL M E l fun vs' => K (v' :: vs')) (fun v' R K => map_b (f := fun R K => lendL M E l K) (fun R K => lendL_b' R K) _ K) K
theorem lendL_b {E : Env} {M : List V} {l : List V} (K : List V → Option R) : lendL M E l K = (lendL M E l some).bind K := lendL_b' R K
theorem lend_b {E : Env} {M : List V} {t : Nat} {v : V} (K : V → Option R) : lend E M t v K = (lend E M t v some).bind K := by
  unfold lend
  split
  · exact map_b (f := fun R K => lendL M E _ K) (fun R K => lendL_b K) _ K
  · exact lend1_b K
theorem lendAll_b' {E : Env} {M : List V} : ∀ {l : List (V × Nat)} (R : Type) (K : List V → Option R), lendAll E M l K = (lendAll E M l some).bind K
  | [], R, K => rfl
  | (v, t) :: l, R, K => comp_b (f := fun R K => lend E M t v K) (fun R K => lend_b K) (g := fun R v' K => lendAll E M l fun vs' => K (v' :: vs')) (fun v' R K => map_b (f := fun R K => lendAll E M l K) (fun R K => lendAll_b' R K) _ K) K
theorem lendAll_b {E : Env} {M : List V} {l : List (V × Nat)} (K : List V → Option R) : lendAll E M l K = (lendAll E M l some).bind K := lendAll_b' R K
theorem partsV_b {E : Env} {fs : List (Nat × Nat)} : ∀ {l : List (Nat × V)} {cs : List V} (K : List V → Option R), partsV E fs l cs K = (partsV E fs l cs some).bind K
  | [], cs, K => rfl
  | (i, v) :: l, cs, K => by
    simp only [partsV]
    (repeat' split) <;> first | rfl | exact partsV_b K
theorem fnOf_b {v : V} {g : ∀ R : Type, Nat → List V → (V → Option R) → Option R} (hg : ∀ f c (R : Type) (K : V → Option R), g R f c K = (g V f c some).bind K) (K : V → Option R) : fnOf v (fun f c => g R f c K) = (fnOf v (fun f c => g V f c some)).bind K := by
  unfold fnOf; split
  · exact hg _ _ R K
  · rfl

theorem iopS_b {E : Env} {cf : CallF} {M : List V} {ρ : Operand → V} {o : Oper} (K : V → Option R) : iopS E cf M ρ o K = (iopS E cf M ρ o some).bind K := by
  unfold iopS
  cases o.op <;> simp only
  all_goals first
    | rfl
    | exact pickV_b K
    | exact binOpV_b K
    | exact unOpV_b K
    | exact convV_b K
    | exact loadV_b K
    | exact fieldAddrV_b K
    | exact fieldV_b K
    | exact indexAddrV_b K
    | exact indexV_b K
    | exact sliceV_b K
    | skip
  case nilCheck x => (repeat' split) <;> rfl
  case build ty ps => (repeat' split) <;> first | rfl | exact comp_b (f := fun R K => partsV E _ _ _ K) (fun R K => partsV_b K) (g := fun R cs K => K (.agg cs)) (fun cs R K => rfl) K
  case extract x i => (repeat' split) <;> rfl
  case makeFunc f x c => (repeat' split) <;> rfl
  case call c =>
    split
    · (repeat' split) <;> first
        | rfl
        | exact lenV_b K
        | exact minInt_b K
        | exact maxInt_b K
    · rename_i f _
      unfold fnOf
      split
      · rename_i id cap _
        simp only
        split
        · rename_i sg fn _ _
          refine comp_b (f := fun R K => lendAll E M ((c.args.toList.map ρ).zip (sg.tys fn)) K) (fun R K => lendAll_b K) (g := fun R as K => if c.args.size ≤ fn.params.size ∧ cap.all V.plain1 = true then
            (match cf id (as ++ cap) with
             | some p => sg.res.chk p.1 K
             | none => none) else none) (fun as R K => ?_) K
          split
          · split
            · exact chkS_b K
            · rfl
          · rfl
        · rfl
      · rfl
    · rfl
end
end Go.Proofs.Ytfkkigbbejhfbaa.Idl
