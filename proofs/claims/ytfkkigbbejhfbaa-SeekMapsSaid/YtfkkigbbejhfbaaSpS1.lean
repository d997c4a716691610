/- Strings compared, byte by byte; what few and right strings are. -/
import Derived.Test.YtfkkigbbejhfbaaStr
import Derived.Test.YtfkkigbbejhfbaaSpP4
import Derived.Test.YtfkkigbbejhfbaaFnS
import Derived.Test.YtfkkigbbejhfbaaFnR
namespace Go.Proofs.Ytfkkigbbejhfbaa
open Go Idl
set_option linter.unusedSimpArgs false
set_option linter.unusedVariables false
set_option maxRecDepth 100000
variable {C : Nat → CallF}

theorem lcp_at {a b : List Nat} : ∀ (i : Nat), i ≤ lcp a b → lcp (a.drop i) (b.drop i) + i = lcp a b := by
  induction a generalizing b with
  | nil => intro i h; simp [lcp] at h; subst h; simp
  | cons x a ih =>
    intro i h
    cases b with
    | nil => simp [lcp] at h; subst h; simp
    | cons y b =>
      cases i with
      | zero => simp
      | succ i =>
        unfold lcp at h ⊢
        split at h
        · rename_i e
          simp only [List.drop_succ_cons]
          have := ih (b := b) i (by omega)
          simp only [lcp, e, if_true] at this ⊢
          cases hd : a.drop i with
          | nil => rw [hd] at this; simp only [lcp] at this ⊢; omega
          | cons u a' =>
            cases hb : b.drop i with
            | nil => rw [hd, hb] at this; simp only [lcp] at this ⊢; omega
            | cons v b' => rw [hd, hb] at this; simp only [lcp] at this ⊢; omega
        · omega
theorem shared_loop (k : Nat) {a b : List Nat} (ha : octets a) (hb : octets b) (hl : a.length ≤ 1000000000) : ∀ (d i j : Nat), i + d = a.length → d < j → i ≤ b.length →
    Shared.l0 C k j (mk a) (mk b) (i : Int) = some (.int .i64 ((i + lcp (a.drop i) (b.drop i) : Nat) : Int), []) := by
  intro d
  induction d with
  | zero =>
    intro i j hd hj hi
    obtain ⟨j, rfl⟩ : ∃ m, j = m + 1 := ⟨j - 1, by omega⟩
    rw [Shared.l0_eq]
    simp (disch := omega) only [cond_dec, cond_beq, cond_bne, cond_true, cond_false, Bool.not_true, Bool.not_false, if_pos, if_neg, Int.toNat_natCast, eq_self, and_true, true_and, bound, w64, natS, natP, size_mk]
    rw [Shared.e0_eq, List.drop_of_length_le (by omega)]
    simp [lcp]
  | succ d ih =>
    intro i j hd hj hi
    obtain ⟨j, rfl⟩ : ∃ m, j = m + 1 := ⟨j - 1, by omega⟩
    have h1 : i < a.length := by omega
    rw [Shared.l0_eq]
    by_cases h2 : i < b.length
    · obtain ⟨u, u1, u2⟩ := mk_get ha h1
      obtain ⟨v, v1, v2⟩ := mk_get hb h2
      rw [List.drop_eq_getElem_cons h1, List.drop_eq_getElem_cons h2]
      simp (disch := omega) only [cond_dec, cond_beq, cond_bne, cond_true, cond_false, Bool.not_true, Bool.not_false, if_pos, if_neg, Int.toNat_natCast, eq_self, and_true, true_and, bound, w64, natS, natP, size_mk, u1, v1, u2, v2]
      simp only [lcp]
      by_cases e : a[i] = b[i]
      · rw [if_pos (by omega), if_pos e, ih (i + 1) j (by omega) (by omega) (by omega)]
        congr 4; omega
      · rw [if_neg (by omega), if_neg e, Shared.e0_eq]; rfl
    · simp (disch := omega) only [cond_dec, cond_beq, cond_bne, cond_true, cond_false, Bool.not_true, Bool.not_false, if_pos, if_neg, Int.toNat_natCast, eq_self, and_true, true_and, bound, w64, natS, natP, size_mk]
      rw [Shared.e0_eq, List.drop_of_length_le (by omega : b.length ≤ i)]
      cases a.drop i <;> simp [lcp]
theorem Shared_spec (h : EqFnS C) {k : Nat} (hk : big < k) {a b : List Nat} (ha : octets a) (hb : octets b) (hl : a.length ≤ 1000000000) :
    C k 98 [.str (mk a), .str (mk b)] = some (.int .i64 ((lcp a b : Nat) : Int), []) := by
  unfold big at hk
  obtain ⟨k, rfl⟩ : ∃ m, k = m + 1 := ⟨k - 1, by omega⟩
  have := shared_loop (C := C) k ha hb hl a.length 0 k (by omega) (by omega) (by omega)
  rw [h.Shared, Shared.f_eq]
  simpa using this

theorem compare_loop (k : Nat) {a b : List Nat} (ha : octets a) (hb : octets b) (hl : a.length ≤ 1000000000) : ∀ (d i j : Nat), i + d = a.length → d < j → i ≤ b.length → a.take i = b.take i →
    RefCompare.l0 C k j (mk a) (mk b) (i : Int) = some (.int .i64 (lcmp (a.drop i) (b.drop i)), []) := by
  intro d
  induction d with
  | zero =>
    intro i j hd hj hi ht
    obtain ⟨j, rfl⟩ : ∃ m, j = m + 1 := ⟨j - 1, by omega⟩
    rw [RefCompare.l0_eq, List.drop_of_length_le (by omega : a.length ≤ i)]
    simp (disch := omega) only [cond_dec, cond_beq, cond_bne, cond_true, cond_false, Bool.not_true, Bool.not_false, if_pos, if_neg, Int.toNat_natCast, eq_self, and_true, true_and, bound, w64, natS, natP, size_mk]
    rw [RefCompare.e0_eq]
    simp (disch := omega) only [cond_dec, cond_beq, cond_bne, cond_true, cond_false, Bool.not_true, Bool.not_false, if_pos, if_neg, Int.toNat_natCast, eq_self, and_true, true_and, bound, w64, natS, natP, size_mk]
    by_cases e : i < b.length
    · rw [if_pos (by omega), List.drop_eq_getElem_cons e]; rfl
    · simp (disch := omega) only [cond_dec, cond_beq, cond_bne, cond_true, cond_false, Bool.not_true, Bool.not_false, if_pos, if_neg, Int.toNat_natCast, eq_self, and_true, true_and, bound, w64, natS, natP]
      rw [List.drop_of_length_le (by omega)]; rfl
  | succ d ih =>
    intro i j hd hj hi ht
    obtain ⟨j, rfl⟩ : ∃ m, j = m + 1 := ⟨j - 1, by omega⟩
    have h1 : i < a.length := by omega
    rw [RefCompare.l0_eq]
    by_cases h2 : i < b.length
    · obtain ⟨u, u1, u2⟩ := mk_get ha h1
      obtain ⟨v, v1, v2⟩ := mk_get hb h2
      rw [List.drop_eq_getElem_cons h1, List.drop_eq_getElem_cons h2, lcmp_cons]
      simp (disch := omega) only [cond_dec, cond_beq, cond_bne, cond_true, cond_false, Bool.not_true, Bool.not_false, if_pos, if_neg, Int.toNat_natCast, eq_self, and_true, true_and, bound, w64, natS, natP, size_mk, u1, v1, u2, v2]
      by_cases e1 : a[i] < b[i]
      · rw [if_pos (by omega), if_pos e1]
      · rw [if_neg (by omega), if_neg e1]
        by_cases e2 : b[i] < a[i]
        · rw [if_pos (by omega), if_pos e2]
        · rw [if_neg (by omega), if_neg e2]
          refine ih (i + 1) j (by omega) (by omega) (by omega) ?_
          rw [List.take_succ_eq_append_getElem h1, List.take_succ_eq_append_getElem h2, ht, show a[i] = b[i] by omega]
    · rw [List.drop_of_length_le (by omega : b.length ≤ i), List.drop_eq_getElem_cons h1]
      simp (disch := omega) only [cond_dec, cond_beq, cond_bne, cond_true, cond_false, Bool.not_true, Bool.not_false, if_pos, if_neg, Int.toNat_natCast, eq_self, and_true, true_and, bound, w64, natS, natP, size_mk]
      rw [RefCompare.e0_eq]
      simp (disch := omega) only [cond_dec, cond_beq, cond_bne, cond_true, cond_false, Bool.not_true, Bool.not_false, if_pos, if_neg, Int.toNat_natCast, eq_self, and_true, true_and, bound, w64, natS, natP, size_mk]
      rfl
theorem RefCompare_spec (h : EqFnR C) {k : Nat} (hk : big < k) {a b : List Nat} (ha : octets a) (hb : octets b) (hl : a.length ≤ 1000000000) :
    C k 40 [.str (mk a), .str (mk b)] = some (.int .i64 (lcmp a b), []) := by
  unfold big at hk
  obtain ⟨k, rfl⟩ : ∃ m, k = m + 1 := ⟨k - 1, by omega⟩
  have := compare_loop (C := C) k ha hb hl a.length 0 k (by omega) (by omega) (by omega) rfl
  rw [h.RefCompare, RefCompare.f_eq]
  simpa using this

theorem sameS_loop (k : Nat) {a b : List (List Nat)} (ha : octs a) (hb : octs b) (hl : a.length = b.length) (hn : a.length ≤ 1000000000) : ∀ (d i j : Nat), i + d = a.length → d < j →
    SameS.l0 C k j (strs a) (strs b) (i : Int) = some (.bool (decide (a.drop i = b.drop i)), []) := by
  intro d
  induction d with
  | zero =>
    intro i j hd hj
    obtain ⟨j, rfl⟩ : ∃ m, j = m + 1 := ⟨j - 1, by omega⟩
    rw [SameS.l0_eq, List.drop_of_length_le (by omega), List.drop_of_length_le (by omega)]
    simp (disch := omega) only [cond_dec, cond_beq, cond_bne, cond_true, cond_false, Bool.not_true, Bool.not_false, if_pos, if_neg, Int.toNat_natCast, eq_self, and_true, true_and, bound, w64, natS, natP, strs_len]
    rw [SameS.e0_eq]; rfl
  | succ d ih =>
    intro i j hd hj
    obtain ⟨j, rfl⟩ : ∃ m, j = m + 1 := ⟨j - 1, by omega⟩
    have h1 : i < a.length := by omega
    have h2 : i < b.length := by omega
    have u := strs_get a h1
    have v := strs_get b h2
    rw [SameS.l0_eq, List.drop_eq_getElem_cons h1, List.drop_eq_getElem_cons h2]
    simp (disch := omega) only [cond_dec, cond_beq, cond_bne, cond_true, cond_false, Bool.not_true, Bool.not_false, if_pos, if_neg, Int.toNat_natCast, eq_self, and_true, true_and, bound, w64, natS, natP, strs_len, u, v]
    rw [eq_mk (ha _ (List.getElem_mem h1)) (hb _ (List.getElem_mem h2))]
    by_cases e : a[i] = b[i]
    · rw [decide_eq_true e, Bool.not_true, cond_false, ih (i + 1) j (by omega) (by omega)]
      simp only [e, List.cons.injEq, true_and]
    · rw [decide_eq_false e, Bool.not_false, cond_true]
      simp only [e, List.cons.injEq, false_and, decide_false]
theorem SameS_spec (h : EqFnR C) {k : Nat} (hk : big < k) {a b : List (List Nat)} (ha : octs a) (hb : octs b) (hl : a.length ≤ 1000000000) :
    C k 36 [.sl false (.strs (strs a)), .sl false (.strs (strs b))] = some (.bool (decide (a = b)), []) := by
  unfold big at hk
  obtain ⟨k, rfl⟩ : ∃ m, k = m + 1 := ⟨k - 1, by omega⟩
  rw [h.SameS, SameS.f_eq, cond_bne, strs_len, strs_len]
  by_cases e : a.length = b.length
  · rw [if_pos (by omega)]
    have := sameS_loop (C := C) k ha hb e hl a.length 0 k (by omega) (by omega)
    simpa using this
  · rw [if_neg (by omega), decide_eq_false (fun h => e (by rw [h]))]
theorem SameB_spec (h : EqFnR C) {k : Nat} (hk : 0 < k) {a b : List Nat} (ha : octets a) (hb : octets b) :
    C k 28 [.sl false (.ints .u8 (ints a)), .sl false (.ints .u8 (ints b))] = some (.bool (decide (a = b)), []) := by
  obtain ⟨k, rfl⟩ : ∃ m, k = m + 1 := ⟨k - 1, by omega⟩
  rw [h.SameB, SameB.f_eq, bytesStr_ints, bytesStr_ints, eq_mk ha hb]

/-! ### right dictionaries -/
def rises (l : List (List Nat)) : Prop := ∀ i, 0 < i → i < l.length → lless (l.getD (i - 1) []) (l.getD i []) = true
structure Rt (l : List (List Nat)) (b : Nat) : Prop where
  lo : 1 ≤ b
  hi : b ≤ 64
  len : l.length ≤ 4096
  size : ∀ s, s ∈ l → s.length ≤ 4096
  up : rises l
theorem strs_getD (l : List (List Nat)) {i : Nat} (h : i < l.length) : l.getD i [] = l[i] := by
  rw [List.getD_eq_getElem?_getD, List.getElem?_eq_getElem h]; rfl
/-- right up to a place -/
def upTo (l : List (List Nat)) (i : Nat) : Prop := ∀ j, j < i → j < l.length → (l.getD j []).length ≤ 4096 ∧ (0 < j → lless (l.getD (j - 1) []) (l.getD j []) = true)
theorem rt_of {l : List (List Nat)} {b : Nat} (h1 : 1 ≤ b) (h2 : b ≤ 64) (h3 : l.length ≤ 4096) (h : upTo l l.length) : Rt l b := by
  refine ⟨h1, h2, h3, fun s hs => ?_, fun i h0 hi => (h i hi hi).2 h0⟩
  obtain ⟨i, hi, rfl⟩ := List.getElem_of_mem hs
  have := (h i hi hi).1
  rwa [strs_getD l hi] at this
theorem Rt.upTo {l : List (List Nat)} {b : Nat} (h : Rt l b) (i : Nat) : upTo l i := by
  intro j _ hj
  exact ⟨h.size _ (by rw [strs_getD l hj]; exact List.getElem_mem hj), fun h0 => h.up j h0 hj⟩
theorem upTo.succ {l : List (List Nat)} {i : Nat} (h : upTo l i) (h1 : (l.getD i []).length ≤ 4096) (h2 : 0 < i → lless (l.getD (i - 1) []) (l.getD i []) = true) : upTo l (i + 1) := by
  intro j hj hl
  by_cases e : j = i
  · subst e; exact ⟨h1, h2⟩
  · exact h j (by omega) hl
theorem pred64 {k : Nat} (h0 : 0 < k) (h : k < 1000000000000000000) : IntKind.i64.wrap ((k : Int) - 1) = ((k - 1 : Nat) : Int) := by
  rw [w64 (by omega) (by omega)]; omega
theorem fright_loop (k : Nat) {l : List (List Nat)} (ho : octs l) (hn : l.length ≤ 4096) {b : Nat} (h1 : 1 ≤ b) (h2 : b ≤ 64) : ∀ (d i j : Nat), i + d = l.length → d < j → upTo l i →
    ∃ r : Bool, (r = true ↔ Rt l b) ∧ FrontRight.l0 C k j (strs l) (strs l) (l.length : Int) (i : Int) = some (.bool r, []) := by
  intro d
  induction d with
  | zero =>
    intro i j hd hj hu
    obtain ⟨j, rfl⟩ : ∃ m, j = m + 1 := ⟨j - 1, by omega⟩
    obtain rfl : i = l.length := by omega
    refine ⟨true, ⟨fun _ => rt_of h1 h2 hn hu, fun _ => rfl⟩, ?_⟩
    rw [FrontRight.l0_eq]
    simp (disch := omega) only [cond_dec, cond_beq, cond_bne, cond_true, cond_false, Bool.not_true, Bool.not_false, if_pos, if_neg, Int.toNat_natCast, eq_self, and_true, true_and, bound, w64, natS, natP]
    rw [FrontRight.e0_eq]
  | succ d ih =>
    intro i j hd hj hu
    obtain ⟨j, rfl⟩ : ∃ m, j = m + 1 := ⟨j - 1, by omega⟩
    have hi : i < l.length := by omega
    have u := strs_get l hi
    have no : ∀ P : Prop, (Rt l b → P) → ¬ P → ∃ r : Bool, (r = true ↔ Rt l b) ∧ some (V.bool false, ([] : List V)) = some (V.bool r, []) := fun P h1 h2 => ⟨false, ⟨fun h => (by cases h), fun h => absurd (h1 h) h2⟩, rfl⟩
    rw [FrontRight.l0_eq]
    simp (disch := omega) only [cond_dec, cond_beq, cond_bne, cond_true, cond_false, Bool.not_true, Bool.not_false, if_pos, if_neg, Int.toNat_natCast, eq_self, and_true, true_and, bound, w64, natS, natP, u, size_mk]
    by_cases hs : l[i].length ≤ 4096
    · rw [if_neg (by omega)]
      by_cases h0 : i = 0
      · subst h0
        rw [if_neg (by omega)]
        exact ih 1 j (by omega) (by omega) (hu.succ (by rw [strs_getD l hi]; exact hs) (fun h => absurd h (by omega)))
      · have v := strs_get l (i := i - 1) (by omega)
        rw [if_pos (by omega)]
        simp (disch := omega) only [cond_dec, cond_beq, cond_bne, cond_true, cond_false, Bool.not_true, Bool.not_false, if_pos, if_neg, Int.toNat_natCast, eq_self, and_true, true_and, bound, w64, natS, natP, v]
        rw [less_mk (ho _ (List.getElem_mem _)) (ho _ (List.getElem_mem _))]
        cases e : lless l[i - 1] l[i] with
        | false =>
          rw [Bool.not_false, cond_true]
          exact no (lless (l.getD (i - 1) []) (l.getD i []) = true) (fun h => h.up i (by omega) hi) (by rw [strs_getD l hi, strs_getD l (by omega), e]; simp)
        | true =>
          rw [Bool.not_true, cond_false]
          exact ih (i + 1) j (by omega) (by omega) (hu.succ (by rw [strs_getD l hi]; exact hs) (fun _ => by rw [strs_getD l hi, strs_getD l (by omega)]; exact e))
    · rw [if_pos (by omega)]
      exact no (l[i].length ≤ 4096) (fun h => h.size _ (List.getElem_mem hi)) hs
theorem FrontRight_spec (h : EqFnS C) {k : Nat} (hk : big < k) {l : List (List Nat)} (ho : octs l) (b : Int) :
    ∃ r : Bool, (r = true ↔ Rt l b.toNat) ∧ C k 69 [.sl false (.strs (strs l)), .int .i64 b] = some (.bool r, []) := by
  unfold big at hk
  obtain ⟨k, rfl⟩ : ∃ m, k = m + 1 := ⟨k - 1, by omega⟩
  have no : ¬ Rt l b.toNat → ∃ r : Bool, (r = true ↔ Rt l b.toNat) ∧ some (V.bool false, ([] : List V)) = some (V.bool r, []) := fun h2 => ⟨false, ⟨fun h => (by cases h), fun h => absurd h h2⟩, rfl⟩
  rw [h.FrontRight, FrontRight.f_eq, strs_len]
  simp (disch := omega) only [cond_dec, cond_beq, cond_bne, cond_true, cond_false, Bool.not_true, Bool.not_false, if_pos, if_neg, Int.toNat_natCast, eq_self, and_true, true_and, bound, w64, natS, natP]
  by_cases h1 : b < 1
  · rw [if_pos h1]; exact no (fun h => by have := h.lo; omega)
  · rw [if_neg h1]
    by_cases h2 : b > 64
    · rw [if_pos h2]; exact no (fun h => by have := h.hi; omega)
    · rw [if_neg h2]
      by_cases h3 : l.length > 4096
      · rw [if_pos (by omega)]; exact no (fun h => by have := h.len; omega)
      · rw [if_neg (by omega)]
        exact fright_loop k ho (by omega) (by omega) (by omega) l.length 0 k (by omega) (by omega) (fun j hj => absurd hj (by omega))
theorem rright_loop (h : EqFnR C) {k : Nat} (hk : big < k) {l : List (List Nat)} (ho : octs l) (hn : l.length ≤ 4096) {b : Nat} (h1 : 1 ≤ b) (h2 : b ≤ 64) : ∀ (d i j : Nat), i + d = l.length → d < j → upTo l i →
    ∃ r : Bool, (r = true ↔ Rt l b) ∧ RefRight.l0 C k j (strs l) (i : Int) = some (.bool r, []) := by
  intro d
  induction d with
  | zero =>
    intro i j hd hj hu
    obtain ⟨j, rfl⟩ : ∃ m, j = m + 1 := ⟨j - 1, by omega⟩
    obtain rfl : i = l.length := by omega
    refine ⟨true, ⟨fun _ => rt_of h1 h2 hn hu, fun _ => rfl⟩, ?_⟩
    rw [RefRight.l0_eq]
    simp (disch := omega) only [cond_dec, cond_beq, cond_bne, cond_true, cond_false, Bool.not_true, Bool.not_false, if_pos, if_neg, Int.toNat_natCast, eq_self, and_true, true_and, bound, w64, natS, natP, strs_len]
    rw [RefRight.e0_eq]
  | succ d ih =>
    intro i j hd hj hu
    obtain ⟨j, rfl⟩ : ∃ m, j = m + 1 := ⟨j - 1, by omega⟩
    have hi : i < l.length := by omega
    have u := strs_get l hi
    have no : ∀ P : Prop, (Rt l b → P) → ¬ P → ∃ r : Bool, (r = true ↔ Rt l b) ∧ some (V.bool false, ([] : List V)) = some (V.bool r, []) := fun P h1 h2 => ⟨false, ⟨fun h => (by cases h), fun h => absurd (h1 h) h2⟩, rfl⟩
    rw [RefRight.l0_eq]
    simp (disch := omega) only [cond_dec, cond_beq, cond_bne, cond_true, cond_false, Bool.not_true, Bool.not_false, if_pos, if_neg, Int.toNat_natCast, eq_self, and_true, true_and, bound, w64, natS, natP, u, size_mk, strs_len]
    by_cases hs : l[i].length ≤ 4096
    · rw [if_neg (by omega)]
      by_cases h0 : i = 0
      · subst h0
        rw [if_neg (by omega)]
        exact ih 1 j (by omega) (by omega) (hu.succ (by rw [strs_getD l hi]; exact hs) (fun h => absurd h (by omega)))
      · have v := strs_get l (i := i - 1) (by omega)
        have hs1 : l[i - 1].length ≤ 4096 := by
          have := (hu (i - 1) (by omega) (by omega)).1
          rwa [strs_getD l (by omega)] at this
        rw [if_pos (by omega)]
        simp (disch := omega) only [cond_dec, cond_beq, cond_bne, cond_true, cond_false, Bool.not_true, Bool.not_false, if_pos, if_neg, Int.toNat_natCast, eq_self, and_true, true_and, bound, w64, natS, natP, v]
        rw [RefCompare.s_ok _ _ (RefCompare_spec h hk (ho _ (List.getElem_mem _)) (ho _ (List.getElem_mem _)) (by omega))]
        by_cases e : lless l[i - 1] l[i] = true
        · rw [if_neg (by have := lcmp_lt.2 e; omega)]
          exact ih (i + 1) j (by omega) (by omega) (hu.succ (by rw [strs_getD l hi]; exact hs) (fun _ => by rw [strs_getD l hi, strs_getD l (by omega)]; exact e))
        · rw [if_pos (lcmp_ge.2 (by simpa using e))]
          exact no (lless (l.getD (i - 1) []) (l.getD i []) = true) (fun h => h.up i (by omega) hi) (by rw [strs_getD l hi, strs_getD l (by omega)]; exact e)
    · rw [if_pos (by omega)]
      exact no (l[i].length ≤ 4096) (fun h => h.size _ (List.getElem_mem hi)) hs
theorem RefRight_spec (h : EqFnR C) {k : Nat} (hk : big + 1 < k) {l : List (List Nat)} (ho : octs l) (b : Int) :
    ∃ r : Bool, (r = true ↔ Rt l b.toNat) ∧ C k 27 [.sl false (.strs (strs l)), .int .i64 b] = some (.bool r, []) := by
  obtain ⟨k, rfl⟩ : ∃ m, k = m + 1 := ⟨k - 1, by omega⟩
  have hk' : big < k := by omega
  unfold big at hk
  have no : ¬ Rt l b.toNat → ∃ r : Bool, (r = true ↔ Rt l b.toNat) ∧ some (V.bool false, ([] : List V)) = some (V.bool r, []) := fun h2 => ⟨false, ⟨fun h => (by cases h), fun h => absurd h h2⟩, rfl⟩
  rw [h.RefRight, RefRight.f_eq, strs_len]
  simp (disch := omega) only [cond_dec, cond_beq, cond_bne, cond_true, cond_false, Bool.not_true, Bool.not_false, if_pos, if_neg, Int.toNat_natCast, eq_self, and_true, true_and, bound, w64, natS, natP]
  by_cases h1 : b < 1
  · rw [if_pos h1]; exact no (fun h => by have := h.lo; omega)
  · rw [if_neg h1]
    by_cases h2 : b > 64
    · rw [if_pos h2]; exact no (fun h => by have := h.hi; omega)
    · rw [if_neg h2]
      by_cases h3 : l.length > 4096
      · rw [if_pos (by omega)]; exact no (fun h => by have := h.len; omega)
      · rw [if_neg (by omega)]
        exact rright_loop h hk' ho (by omega) (by omega) (by omega) l.length 0 k (by omega) (by omega) (fun j hj => absurd hj (by omega))

/-! ### few strings -/
structure Few (l : List (List Nat)) : Prop where
  len : l.length ≤ 150
  size : ∀ s, s ∈ l → s.length ≤ 5000
theorem few_loop (k : Nat) {l : List (List Nat)} : ∀ (d i j n : Nat), (if l.length < 400 then l.length else 400) = i + d → d < j → n ≤ 5000 * i → (∀ m, m < i → (l.getD m []).length ≤ 5000) →
    ∃ r : Bool, (r = true → l.length ≤ 300 ∧ ∀ m, m < l.length → (l.getD m []).length ≤ 5000) ∧ Few07.l0 C k j (strs l) (n : Int) (i : Int) = some (.bool r, []) := by
  intro d
  induction d with
  | zero =>
    intro i j n hd hj hn hs
    obtain ⟨j, rfl⟩ : ∃ m, j = m + 1 := ⟨j - 1, by omega⟩
    rw [Few07.l0_eq]
    by_cases h4 : i < l.length
    · have h400 : i = 400 := by split at hd <;> omega
      simp (disch := omega) only [cond_dec, cond_beq, cond_bne, cond_true, cond_false, Bool.not_true, Bool.not_false, if_pos, if_neg, Int.toNat_natCast, eq_self, and_true, true_and, bound, w64, natS, natP, strs_len]
      rw [Few07.e0_eq]
      simp (disch := omega) only [cond_dec, cond_beq, cond_bne, cond_true, cond_false, Bool.not_true, Bool.not_false, if_pos, if_neg, Int.toNat_natCast, eq_self, and_true, true_and, bound, w64, natS, natP, strs_len]
      exact ⟨false, fun h => (by cases h), rfl⟩
    · have h400 : l.length ≤ i := by split at hd <;> omega
      simp (disch := omega) only [cond_dec, cond_beq, cond_bne, cond_true, cond_false, Bool.not_true, Bool.not_false, if_pos, if_neg, Int.toNat_natCast, eq_self, and_true, true_and, bound, w64, natS, natP, strs_len]
      rw [Few07.e0_eq]
      simp (disch := omega) only [cond_dec, cond_beq, cond_bne, cond_true, cond_false, Bool.not_true, Bool.not_false, if_pos, if_neg, Int.toNat_natCast, eq_self, and_true, true_and, bound, w64, natS, natP, strs_len]
      by_cases h3 : l.length ≤ 300
      · rw [if_pos (by omega)]
        exact ⟨_, fun _ => ⟨h3, fun m hm => hs m (by omega)⟩, rfl⟩
      · rw [if_neg (by omega)]
        exact ⟨false, fun h => (by cases h), rfl⟩
  | succ d ih =>
    intro i j n hd hj hn hs
    obtain ⟨j, rfl⟩ : ∃ m, j = m + 1 := ⟨j - 1, by omega⟩
    have hi : i < l.length := by split at hd <;> omega
    have h4 : i < 400 := by split at hd <;> omega
    have u := strs_get l hi
    rw [Few07.l0_eq]
    simp (disch := omega) only [cond_dec, cond_beq, cond_bne, cond_true, cond_false, Bool.not_true, Bool.not_false, if_pos, if_neg, Int.toNat_natCast, eq_self, and_true, true_and, bound, w64, natS, natP, u, size_mk, strs_len]
    by_cases h5 : l[i].length > 5000
    · rw [if_pos (by omega)]
      exact ⟨false, fun h => (by cases h), rfl⟩
    · rw [if_neg (by omega)]
      have := ih (i + 1) j (n + l[i].length) (by omega) (by omega) (by omega) (fun m hm => by
        by_cases e : m = i
        · subst e; rw [strs_getD l hi]; omega
        · exact hs m (by omega))
      rwa [Int.natCast_add] at this
theorem Few13_spec (h : EqFnR C) {k : Nat} (hk : big + 1 < k) {l : List (List Nat)} :
    ∃ r : Bool, (r = true → Few l) ∧ C k 25 [.sl false (.strs (strs l))] = some (.bool r, []) := by
  unfold big at hk
  obtain ⟨k, rfl⟩ : ∃ m, k = m + 2 := ⟨k - 2, by omega⟩
  rw [h.Few13, Few13.f_eq]
  simp (disch := omega) only [cond_dec, cond_beq, cond_bne, cond_true, cond_false, Bool.not_true, Bool.not_false, if_pos, if_neg, Int.toNat_natCast, eq_self, and_true, true_and, bound, w64, natS, natP, strs_len]
  by_cases h1 : l.length ≤ 150
  · obtain ⟨r, r1, r2⟩ := few_loop (C := C) k (l := l) l.length 0 k 0 (by split <;> omega) (by omega) (by omega) (fun m hm => absurd hm (by omega))
    have f : C (k + 1) 68 [.sl false (.strs (strs l))] = some (.bool r, []) := by rw [h.Few07, Few07.f_eq]; exact r2
    rw [if_pos (by omega), Few07.s_ok _ f]
    refine ⟨r, fun h => ⟨h1, fun s hs => ?_⟩, rfl⟩
    obtain ⟨i, hi, rfl⟩ := List.getElem_of_mem hs
    have := (r1 h).2 i hi
    rwa [strs_getD l hi] at this
  · rw [if_neg (by omega)]
    exact ⟨false, fun h => (by cases h), rfl⟩
end Go.Proofs.Ytfkkigbbejhfbaa
