/- A drawn order, whichever: as if the text's. -/
import Derived.Test.YtfkkigbbejhfbaaSound28
namespace Go.Proofs.Ytfkkigbbejhfbaa.Idl
open Go
variable {P : Program}

def Anc (bs : List Nat) (k j : Nat) : Prop := (bs.getD j 0).testBit k = true

theorem fold_bit (acc : List Nat) (k : Nat) : ∀ (l : List Edge) (m : Nat), (l.foldl (fun s e => if Region.binds .any e = true then s ||| 2 ^ e.on ||| acc.getD e.on 0 else s) m).testBit k = true →
    m.testBit k = true ∨ ∃ e, e ∈ l ∧ Region.binds .any e = true ∧ (e.on = k ∨ (acc.getD e.on 0).testBit k = true)
  | [], m, h => .inl h
  | e :: l, m, h => by
    simp only [List.foldl_cons] at h
    rcases fold_bit acc k l _ h with h | ⟨e', h1, h2, h3⟩
    · split at h
      · rename_i hb
        rw [Nat.testBit_or, Nat.testBit_or, Bool.or_eq_true, Bool.or_eq_true] at h
        rcases h with (h | h) | h
        · exact .inl h
        · rw [Nat.testBit_two_pow] at h
          exact .inr ⟨e, by simp, hb, .inl (by simpa using h)⟩
        · exact .inr ⟨e, by simp, hb, .inr h⟩
      · exact .inl h
    · exact .inr ⟨e', by simp [h1], h2, h3⟩

/-- what the numbers tell -/
def AncsOK (all : List Oper) (acc : List Nat) : Prop := ∀ j k, j < acc.length → (acc.getD j 0).testBit k = true → ∃ o e, all[j]? = some o ∧ e ∈ o.after.toList ∧ Region.binds .any e = true ∧ (e.on = k ∨ e.on < j ∧ (acc.getD e.on 0).testBit k = true)
theorem ancs_ok {all : List Oper} : ∀ (os : List Oper) (acc : List Nat), (∀ j, os[j]? = all[acc.length + j]?) → AncsOK all acc → AncsOK all (ancs os acc) ∧ acc.length ≤ (ancs os acc).length
  | [], acc, _, h => ⟨h, Nat.le_refl _⟩
  | o :: os, acc, hall, h => by
    have ho : all[acc.length]? = some o := by simpa using (hall 0).symm
    unfold ancs
    obtain ⟨h1, h2⟩ := ancs_ok os (acc ++ [o.after.toList.foldl (fun s e => if Region.binds .any e = true then s ||| 2 ^ e.on ||| acc.getD e.on 0 else s) 0]) (fun j => by
      have := hall (j + 1); simpa [Nat.add_assoc, Nat.add_comm 1 j] using this) (fun j k hj hb => by
      simp only [List.length_append, List.length_singleton] at hj
      have getl : ∀ i, i < acc.length → (acc ++ [o.after.toList.foldl (fun s e => if Region.binds .any e = true then s ||| 2 ^ e.on ||| acc.getD e.on 0 else s) 0]).getD i 0 = acc.getD i 0 := by
        intro i hi
        simp only [List.getD_eq_getElem?_getD]
        rw [List.getElem?_append_left hi]
      by_cases hj2 : j < acc.length
      · rw [getl j hj2] at hb
        obtain ⟨o', e, a1, a2, a3, a4⟩ := h j k hj2 hb
        refine ⟨o', e, a1, a2, a3, ?_⟩
        rcases a4 with a4 | ⟨a4, a5⟩
        · exact .inl a4
        · exact .inr ⟨a4, by rw [getl e.on (by omega)]; exact a5⟩
      · have hj3 : j = acc.length := by omega
        subst hj3
        simp only [List.getD_eq_getElem?_getD] at hb
        rw [List.getElem?_append_right (Nat.le_refl _)] at hb
        simp only [Nat.sub_self, List.getElem?_cons_zero, Option.getD_some] at hb
        have hb' := fold_bit acc k o.after.toList 0 (by simpa only [List.getD_eq_getElem?_getD] using hb)
        rcases hb' with hb' | ⟨e, a1, a2, a3⟩
        · simp at hb'
        · refine ⟨o, e, ho, a1, a2, ?_⟩
          rcases a3 with a3 | a3
          · exact .inl a3
          · refine .inr ?_
            have hlt : e.on < acc.length := by
              rcases Nat.lt_or_ge e.on acc.length with h' | h'
              · exact h'
              · rw [List.getD_eq_getElem?_getD, List.getElem?_eq_none h'] at a3
                simp at a3
            exact ⟨hlt, by rw [getl e.on hlt]; exact a3⟩)
    simp only [List.length_append, List.length_singleton] at h2
    exact ⟨h1, by omega⟩

theorem edges_ok {all : List Oper} : ∀ (os : List Oper) (j : Nat), (∀ i, os[i]? = all[j + i]?) → edgesOK os j = true → ∀ i o e, j ≤ i → all[i]? = some o → e ∈ o.after → Region.binds .any e = true → e.on < i
  | [], j, hall, _, i, o, e, hji, ho, _, _ => by
    have := hall (i - j)
    rw [show j + (i - j) = i by omega, ho] at this
    simp at this
  | o' :: os, j, hall, h, i, o, e, hji, ho, he, hb => by
    simp only [edgesOK, Bool.and_eq_true, List.all_eq_true, Bool.or_eq_true, Bool.not_eq_true', decide_eq_true_eq] at h
    by_cases hij : i = j
    · subst hij
      have := hall 0
      simp only [List.getElem?_cons_zero, Nat.add_zero, ho, Option.some.injEq] at this
      subst this
      rcases h.1 e (Array.mem_toList_iff.2 he) with h1 | h1
      · rw [h1] at hb; cases hb
      · exact h1
    · exact edges_ok os (j + 1) (fun k => by have := hall (k + 1); simpa [Nat.add_assoc, Nat.add_comm 1 k] using this) h.2 i o e (by omega) ho he hb

section
variable {F : Fx} {S S' : Nat → Prop} {own own' : Nat → Option Nat} {T T' : Nat → Value} {a : Act} {w : World} {R : Type} {E : Env} {cf : CallF}

theorem any_sound (hE : EnvOK P E) (hcf : CallsOK P cf) {ops : Array Oper} {K : St → Option R} {r : R} {Q : Exit → Act → World → Prop} (hQ : ∀ a w, HPost F K r a w → Q .normal a w)
    (hedge : ∀ i o e, ops.toList[i]? = some o → e ∈ o.after → Region.binds .any e = true → e.on < i) {bs : List Nat} (hbs : ∀ j k, Anc bs k j → ∃ o e, ops.toList[j]? = some o ∧ e ∈ o.after.toList ∧ Region.binds .any e = true ∧ (e.on = k ∨ e.on < j ∧ Anc bs k e.on)) :
    ∀ (n : Nat) (L : List (Nat × Foot)) (listed : Array Bool) (S : Nat → Prop) (own : Nat → Option Nat) (T : Nat → Value) (s s' : St) (a : Act) (w : World), L.length = n → listed.size = ops.size → FR F S own T s a w → Run E cf ops.toList L s s' → K s' = some r →
      (L.map (·.1)).Pairwise (· < ·) → L.Pairwise (fun x y => Anc bs x.1 y.1 ∨ ∀ ox oy, ops.toList[x.1]? = some ox → ops.toList[y.1]? = some oy → NoClash ops.toList ox oy x.2 y.2) →
      (∀ j, listed.getD j true = false ↔ j ∈ L.map (·.1)) → (∀ j k, j ∉ L.map (·.1) → Anc bs k j → k ∉ L.map (·.1)) → wpAny P .any ops Q n listed a w
  | 0, L, listed, S, own, T, s, s', a, w, hl, hsz, h, hrun, hk, _, _, hlist, _ => by
    have : L = [] := List.eq_nil_of_length_eq_zero hl
    subst this
    cases hrun
    refine ⟨?_, hQ a w ⟨S, own, T, s, h, hk⟩⟩
    rw [List.eq_nil_iff_forall_not_mem]
    intro j hj
    have := (hlist j).1 (mem_ready.1 hj).1
    simp at this
  | n + 1, L, listed, S, own, T, s, s', a, w, hl, hsz, h, hrun, hk, hsort, hpw, hlist, hclos => by
    have listed_of : ∀ j, j < ops.size → j ∉ L.map (·.1) → listed.getD j false = true := by
      intro j hj hn
      have h1 : listed.getD j true ≠ false := fun e => hn ((hlist j).1 e)
      have hj2 : j < listed.size := by omega
      simp only [Array.getD_eq_getD_getElem?, Array.getElem?_eq_getElem hj2, Option.getD_some] at h1 ⊢
      simpa using h1
    refine ⟨fun hr => ?_, fun i hi => ?_⟩
    · exfalso
      cases L with
      | nil => simp at hl
      | cons x L =>
        obtain ⟨i, f⟩ := x
        cases hrun with
        | @cons _ _ _ _ _ o q ho hq hf hrun =>
          have hmem : i ∈ Region.ready .any ops listed := by
            rw [mem_ready]
            refine ⟨(hlist i).2 (by simp), o, by simpa using ho, fun e he hb => ?_⟩
            have hlt := hedge i o e ho he hb
            have hi : i < ops.size := by have := (List.getElem?_eq_some_iff.1 ho).1; simpa using this
            refine listed_of e.on (by omega) (fun hm => ?_)
            simp only [List.map_cons, List.mem_cons] at hm
            rcases hm with hm | hm
            · omega
            · have h9 : i < e.on := (List.pairwise_cons.1 hsort).1 e.on hm
              omega
          rw [hr] at hmem
          cases hmem
    · obtain ⟨h0, o, ho, hall⟩ := mem_ready.1 hi
      have hiL := (hlist i).1 h0
      obtain ⟨⟨i', f⟩, hmem, e0⟩ := List.mem_map.1 hiL
      simp only at e0
      subst e0
      obtain ⟨A, B, rfl⟩ := List.append_of_mem hmem
      have ho' : ops.toList[i']? = some o := by simpa using ho
      have nAnc : ∀ k, k ∈ (A ++ (i', f) :: B).map (·.1) → ¬ Anc bs k i' := by
        intro k hkL hanc
        obtain ⟨o2, e, a1, a2, a3, a4⟩ := hbs i' k hanc
        rw [ho'] at a1; cases a1
        have hle := hall e (Array.mem_toList_iff.1 a2) a3
        have hlt := hedge i' o e ho' (Array.mem_toList_iff.1 a2) a3
        have hnot : e.on ∉ (A ++ (i', f) :: B).map (·.1) := by
          intro hm
          have h1 := (hlist e.on).2 hm
          have hi : i' < ops.size := (Array.getElem?_eq_some_iff.1 ho).1
          have hj2 : e.on < listed.size := by omega
          simp only [Array.getD_eq_getD_getElem?, Array.getElem?_eq_getElem hj2, Option.getD_some] at h1 hle
          rw [h1] at hle; cases hle
        rcases a4 with a4 | ⟨_, a4⟩
        · exact hnot (by rw [a4]; exact hkL)
        · exact hclos e.on k hnot a4 hkL
      have hmv := run_first ho' A B s s' (fun j g oj hA hoj => by
        rw [List.pairwise_append] at hpw
        rcases hpw.2.2 (j, g) hA (i', f) (by simp) with hx | hx
        · exact absurd hx (nAnc j (by simp only [List.map_append, List.mem_append]; exact .inl (List.mem_map.2 ⟨(j, g), hA, rfl⟩)))
        · exact hx oj o hoj ho') hrun
      cases hmv with
      | @cons _ _ _ _ _ o2 q ho2 hq hf hrun2 =>
        rw [ho'] at ho2; cases ho2
        have hsub : (A ++ B).Sublist (A ++ (i', f) :: B) := List.Sublist.append_left (List.sublist_cons_self _ _) A
        have hmemAB : ∀ j, j ∈ (A ++ B).map (·.1) ↔ j ∈ (A ++ (i', f) :: B).map (·.1) ∧ j ≠ i' := by
          intro j
          have hnd : ((A ++ (i', f) :: B).map (·.1)).Nodup := hsort.imp (fun h => Nat.ne_of_lt h)
          simp only [List.map_append, List.map_cons, List.mem_append, List.mem_cons] at hnd ⊢
          rw [List.nodup_append, List.nodup_cons] at hnd
          constructor
          · rintro (hx | hx)
            · exact ⟨.inl hx, fun e => hnd.2.2 j hx i' (by simp) e⟩
            · exact ⟨.inr (.inr hx), fun e => hnd.2.1.1 (by rw [← e]; exact hx)⟩
          · rintro ⟨hx | hx | hx, hne⟩
            · exact .inl hx
            · exact absurd hx hne
            · exact .inr hx
        have hi' : i' < listed.size := by have := (Array.getElem?_eq_some_iff.1 ho).1; omega
        have next : ∀ a1 w1, HPost F some (after s o q) a1 w1 → wpAny P .any ops Q n (listed.setIfInBounds i' true) a1 w1 := by
          rintro a1 w1 ⟨S1, own1, T1, s1, h1, e1⟩
          cases e1
          refine any_sound hE hcf hQ hedge hbs n (A ++ B) _ S1 own1 T1 _ s' a1 w1 (by simp at hl ⊢; omega) (by simp [hsz]) h1 hrun2 hk (hsort.sublist (hsub.map _)) (hpw.sublist hsub) (fun j => ?_) (fun j k hj hanc hkm => ?_)
          · rw [hmemAB]
            by_cases hji : j = i'
            · subst hji
              simp [hi']
            · rw [getD_set_ne true (Ne.symm hji), hlist j]
              exact ⟨fun h => ⟨h, hji⟩, fun h => h.1⟩
          · have hk2 := ((hmemAB k).1 hkm).1
            by_cases hji : j = i'
            · subst hji
              exact nAnc k hk2 hanc
            · exact hclos j k (fun hm => hj ((hmemAB j).2 ⟨hm, hji⟩)) hanc hk2
        have hG := iopG_sound (F := F) (K := some) (r := after s o q) (Q := Q) (all := ops.toList) (o := o) hE hcf h (by rw [iopG_gv hq])
        unfold wpOp
        rw [ho]
        simp only
        rw [show ops.toList.toArray = ops from by simp] at hG
        split
        · rename_i hw
          rw [if_pos hw] at hG
          exact .inl (Oper.wp_mono next hG)
        · rename_i hw
          rw [if_neg hw] at hG
          exact next _ _ hG

theorem draw_ok (hm : P.follows .mixedOrders = true) (hE : EnvOK P E) (hcf : CallsOK P cf) : DrawOK P E cf := by
  intro R F S own T s a w K r id ops h hk
  unfold iregion at hk
  simp only [cond_true] at hk
  obtain ⟨L, s', hrun, hidx, hk⟩ := iopsD_run (all := ops.toList) 0 ops.toList s [] _ r (fun j => by simp) hk
  simp only [List.nil_append] at hk
  cases hg : goodDraw ops.toList (ancs ops.toList []) (L.map (·.2)) with
  | false => rw [hg] at hk; simp at hk
  | true =>
    rw [hg] at hk
    simp only [cond_true] at hk
    simp only [goodDraw, Bool.and_eq_true, List.all_eq_true, List.mem_range, Bool.or_eq_true] at hg
    obtain ⟨hg1, hg2⟩ := hg
    obtain ⟨ha1, _⟩ := ancs_ok (all := ops.toList) ops.toList [] (fun j => by simp) (fun j k hj => by simp at hj)
    have hlen : L.length = ops.size := by have := congrArg List.length hidx; simpa using this
    have hfr : FR F S own T s a { w with drawn := w.drawn + 1 } := by
      obtain ⟨a1, a2, a3, a4, a5, a6, a7, a8, a9, a10, a11, a12, a13⟩ := h
      have L0 : Later S S w { w with drawn := w.drawn + 1 } T T s.M s.M := ⟨fun _ h => h, fun _ _ => rfl, fun _ _ => rfl, Nat.le_refl _, fun _ o a _ h => ⟨o, a, h, rfl, rfl⟩⟩
      exact ⟨a1, fun t v c hv hc => (a2 t v c hv hc).later L0, fun id c hc => (a3 id c hc).later L0 (List.getElem?_eq_some_iff.1 hc).1 (fun b hb => ⟨hb, rfl⟩), a4, a5, a6, a7, a8, a9, a10, a11, a12, a13⟩
    have getL : ∀ (p : Nat) x, L[p]? = some x → x.1 = p ∧ (L.map (·.2))[p]? = some x.2 := by
      intro p x hp
      have h1 : (L.map (·.1))[p]? = some x.1 := by rw [List.getElem?_map, hp]; rfl
      rw [hidx, List.getElem?_range'] at h1
      · simp at h1
        exact ⟨h1.symm, by rw [List.getElem?_map, hp]; rfl⟩
      · have := (List.getElem?_eq_some_iff.1 hp).1
        rw [hlen] at this; simpa using this
    refine wp_mono (Q' := fun e a w => e = .normal ∧ HPost F K r a w) (wp_region_any hm ?_) (fun e a w h => h)
    have := any_sound (F := F) (K := K) (r := r) (Q := fun e a w => e = .normal ∧ HPost F K r a w) (bs := ancs ops.toList []) hE hcf (fun a w h => ⟨rfl, h⟩) (fun i o e ho he hb => edges_ok ops.toList 0 (fun j => by simp) hg1 i o e (Nat.zero_le _) ho he hb)
      (fun j k hanc => by
        have hj : j < (ancs ops.toList []).length := by
          rcases Nat.lt_or_ge j (ancs ops.toList []).length with h' | h'
          · exact h'
          · unfold Anc at hanc
            rw [List.getD_eq_getElem?_getD, List.getElem?_eq_none h'] at hanc
            simp at hanc
        exact ha1 j k hj hanc) ops.size L (Array.replicate ops.size false) S own T s s' a _ hlen (by simp) hfr hrun hk ?_ ?_ ?_ ?_
    · exact this
    · rw [hidx]
      exact List.pairwise_lt_range' (s := 0) (n := ops.toList.length) (step := 1)
    · rw [List.pairwise_iff_getElem]
      intro p q hp hq hpq
      obtain ⟨e1, e2⟩ := getL p L[p] (List.getElem?_eq_getElem hp)
      obtain ⟨e3, e4⟩ := getL q L[q] (List.getElem?_eq_getElem hq)
      have hql : q < ops.toList.length := by simp; omega
      rcases hg2 q hql p hpq with hx | hx
      · refine .inl ?_
        rw [e1, e3]; exact hx
      · refine .inr (fun ox oy hox hoy => ?_)
        rw [e1] at hox
        rw [e3] at hoy
        rw [hox, hoy, e2, e4] at hx
        unfold NoClash
        simpa using hx
    · intro j
      rw [hidx]
      simp only [List.mem_range', Nat.zero_add, Array.getD_eq_getD_getElem?]
      constructor
      · intro hj
        have hlt : j < ops.size := by
          rcases Nat.lt_or_ge j ops.size with h' | h'
          · exact h'
          · rw [Array.getElem?_eq_none (by simpa using h')] at hj; simp at hj
        exact ⟨j, by simpa using hlt, by omega⟩
      · rintro ⟨i, hi, rfl⟩
        have : i < ops.size := by simpa using hi
        simp [this]
    · intro j k hj hanc hkm
      rw [hidx] at hj hkm
      simp only [List.mem_range', Nat.zero_add] at hj hkm
      obtain ⟨o, e, ho, he, hb, h3⟩ := ha1 j k (by
        rcases Nat.lt_or_ge j (ancs ops.toList []).length with h' | h'
        · exact h'
        · unfold Anc at hanc
          rw [List.getD_eq_getElem?_getD, List.getElem?_eq_none h'] at hanc
          simp at hanc) hanc
      exact hj ⟨j, (List.getElem?_eq_some_iff.1 ho).1, by omega⟩
end
end Go.Proofs.Ytfkkigbbejhfbaa.Idl
