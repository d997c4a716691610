/- SeekPrefixes, SeekMaps and SeekAll, as statements about their printed equations. -/
import Derived.Test.YtfkkigbbejhfbaaLwK1
namespace Go.Proofs.Ytfkkigbbejhfbaa
open Go Idl
set_option linter.unusedSimpArgs false
set_option linter.unusedVariables false
set_option maxRecDepth 100000
variable {C : Nat → CallF}

theorem pre_not_less : ∀ {p a : List Nat}, isPre p a = true → lless a p = false
  | [], a, _ => by cases a <;> rfl
  | c :: p, [], h => by simp [isPre] at h
  | c :: p, e :: a, h => by
    simp only [isPre, List.length_cons, List.take_succ_cons, List.cons.injEq, decide_eq_true_eq] at h
    obtain ⟨rfl, h⟩ := h
    have := pre_not_less (p := p) (a := a) (by simp [isPre, h])
    simp [lless, this]
theorem pre_iff {p : List Nat} {t : List (List Nat)} (hc : climbs t) {i : Nat} (hi : i < t.length) : isPre p t[i] = decide (low p t ≤ i ∧ i < low p t + pre p t) := by
  rw [← strs_getD t hi]
  by_cases h1 : low p t ≤ i
  · obtain ⟨m, rfl⟩ : ∃ m, i = low p t + m := ⟨i - low p t, by omega⟩
    by_cases h2 : m < pre p t
    · have := lead_lt (isPre p) (t.drop (low p t)) m h2
      rw [getD_drop] at this
      rw [this, decide_eq_true (by omega)]
    · rw [decide_eq_false (by omega)]
      have st : isPre p (t.getD (low p t + pre p t) []) = false := by
        have := lead_stop (isPre p) (t.drop (low p t)) (by rw [List.length_drop]; have : lead (isPre p) (t.drop (low p t)) = pre p t := rfl; omega)
        rw [getD_drop] at this
        exact this
      cases e : isPre p (t.getD (low p t + m) []) with
      | false => rfl
      | true =>
        rcases Nat.lt_or_ge (pre p t) m with g | g
        · rw [pre_mono (low_ge hc (Nat.le_add_right _ _) (by omega)) (climbs_getD hc (show low p t + pre p t < low p t + m by omega) hi) e] at st
          cases st
        · have : m = pre p t := by omega
          rw [this, st] at e; cases e
  · rw [decide_eq_false (by omega)]
    cases e : isPre p (t.getD i []) with
    | false => rfl
    | true => have := low_lt (s := p) (t := t) (i := i) (by omega); rw [pre_not_less e] at this; cases this

theorem prefixes_loop (h : EqFnK C) {k : Nat} (hk : 1 < k) {t : List (List Nat)} (ho : octs t) (hc : climbs t) (ht : t.length ≤ 5000) {p : List Nat} (hp : octets p) : ∀ (d i j : Nat), i + d = t.length → d < j →
    SeekPrefixes.l0 C k j (mk p) (strs t) (low p t : Nat) ((low p t + pre p t : Nat) : Int) (i : Int) = some (.bool true, []) := by
  intro d
  induction d with
  | zero =>
    intro i j hd hj
    obtain ⟨j, rfl⟩ : ∃ m, j = m + 1 := ⟨j - 1, by omega⟩
    rw [SeekPrefixes.l0_eq]
    simp (disch := omega) only [cond_dec, cond_beq, cond_bne, cond_true, cond_false, Bool.not_true, Bool.not_false, if_pos, if_neg, Int.toNat_natCast, eq_self, and_true, true_and, bound, w64, natS, natP, strs_len]
    rw [SeekPrefixes.e0_eq]
  | succ d ih =>
    intro i j hd hj
    obtain ⟨j, rfl⟩ : ∃ m, j = m + 1 := ⟨j - 1, by omega⟩
    have hi : i < t.length := by omega
    have u := strs_get t hi
    have ei : IntKind.i64.wrap ((i : Int) + 1) = ((i + 1 : Nat) : Int) := by rw [natS, w64n (by omega)]
    have c := HasPre_spec h (k := k) hk (ho _ (List.getElem_mem hi)) hp
    rw [pre_iff hc hi] at c
    rw [SeekPrefixes.l0_eq]
    simp only [cond_dec, strs_len, Int.toNat_natCast, u]
    rw [if_pos (by omega), if_pos (by omega), HasPre.s_ok _ _ c, ei]
    by_cases g : low p t ≤ i
    · have e : decide (low p t ≤ i ∧ i < low p t + pre p t) = decide ((i : Int) < ((low p t + pre p t : Nat) : Int)) := by rw [decide_eq_decide]; omega
      rw [if_pos (by omega), e, beq_self_eq_true, Bool.not_true, cond_false]
      exact ih (i + 1) j (by omega) (by omega)
    · rw [if_neg (by omega), decide_eq_false (by omega), beq_self_eq_true, Bool.not_true, cond_false]
      exact ih (i + 1) j (by omega) (by omega)
theorem SeekPrefixes_law (h : EqFnK C) (hL : EqFnL C) (hS : EqFnS C) (hR : EqFnR C) (hP : EqFnP C) (H : EqH C) {k : Nat} (hk : big + 10 < k) (hb : 100011 < k) {l : List (List Nat)} (ho : octs l) {s : List Nat} (hs : octets s) :
    C k 10 [.sl false (.strs (strs l)), .str (mk s)] = some (.bool true, []) := by
  obtain ⟨k, rfl⟩ : ∃ m, k = m + 1 := ⟨k - 1, by omega⟩
  obtain ⟨aw, d⟩ := start h hL hS hR hP H (k := k) (by omega) (by omega) ho
  rw [hL.SeekPrefixes, SeekPrefixes.f_eq]
  rcases d with d | ⟨few, hr, d⟩
  · rw [Dict14.s_nil _ d, Awake14.s_ok aw, Bool.not_true, cond_false, Bool.not_false, cond_true, Awake14.s_ok aw]
  · rw [Dict14.s_ok _ d, Awake14.s_ok aw, Bool.not_true, cond_false, cond_false, size_mk, cond_dec]
    by_cases h5 : (s.length : Int) > 5000
    · rw [if_pos h5, Awake14.s_ok aw]
    · rw [if_neg h5]
      have os := octs_sorted ho
      have hc := sorted_climbs l
      have hl := hr.len
      have pl := pre_le s (sorted l)
      have pf := SeekPrefix_spec h hS (k := k) (by omega) os hc (by omega) hs
      have lw := SeekLower_spec h hS (k := k) (by omega) os hc (by omega) hs
      have lp := prefixes_loop h (k := k) (by omega) os hc (by omega) hs (sorted l).length 0 k (by omega) (by omega)
      rw [show ((0 : Nat) : Int) = 0 from rfl] at lp
      rw [SeekPrefix.s_ok _ _ pf, SeekLower.s_ok _ _ lw, cond_bne, if_pos rfl, cond_dec, if_neg (by omega), cond_dec, strs_len, if_neg (by omega)]
      exact lp

/-! ### codes -/
theorem code_at {t : List (List Nat)} (hc : climbs t) {i : Nat} (hi : i < t.length) : code t[i] t = some i := by
  have : low t[i] t = i := lead_eq (by omega) (fun m hm => by rw [← strs_getD t hi]; exact climbs_getD hc hm hi) (fun _ => by rw [strs_getD t hi]; exact lless_irrefl _)
  rw [code_yes (by rw [this]; exact ⟨hi, strs_getD t hi⟩), this]
theorem code_mem {s : List Nat} {t : List (List Nat)} (hc : climbs t) (h : s ∈ t) : ∃ i, ∃ hi : i < t.length, t[i] = s ∧ code s t = some i := by
  obtain ⟨i, hi, rfl⟩ := List.getElem_of_mem h
  exact ⟨i, hi, rfl, code_at hc hi⟩
theorem code_not {s : List Nat} {t : List (List Nat)} (h : s ∉ t) : code s t = none := by
  refine code_no (fun ⟨h1, h2⟩ => h ?_)
  rw [strs_getD t h1] at h2
  rw [← h2]; exact List.getElem_mem h1

theorem found_loop {k : Nat} {a b : List ByteArray} {X : List ByteArray} {x y : List (List Nat)} (hx : octs x) (hy : octs y) (ly : y.length ≤ 5000) {D : List ByteArray} {i j0 : Nat} (hi : i < x.length) {m : List Int} : ∀ (d n j : Nat) (f : Bool), n + d = y.length → d < j → (f = true ↔ x[i] ∈ y.take n) →
    ∃ f' : Bool, (f' = true ↔ x[i] ∈ y) ∧ SeekMaps.l1 C k j j0 a b X (strs x) D (strs y) (i : Int) f (n : Int) m = SeekMaps.e1 C k j0 a b X (strs x) D (strs y) (i : Int) f' m := by
  intro d
  induction d with
  | zero =>
    intro n j f hd hj hf
    obtain ⟨j, rfl⟩ : ∃ m, j = m + 1 := ⟨j - 1, by omega⟩
    refine ⟨f, by rw [hf, List.take_of_length_le (by omega)], ?_⟩
    rw [SeekMaps.l1_eq, cond_dec, strs_len, if_neg (by omega)]
  | succ d ih =>
    intro n j f hd hj hf
    obtain ⟨j, rfl⟩ : ∃ m, j = m + 1 := ⟨j - 1, by omega⟩
    have hn : n < y.length := by omega
    have ei : IntKind.i64.wrap ((n : Int) + 1) = ((n + 1 : Nat) : Int) := by rw [natS, w64n (by omega)]
    have tk : y.take (n + 1) = y.take n ++ [y[n]] := List.take_succ_eq_append_getElem hn
    rw [SeekMaps.l1_eq, cond_dec, strs_len, if_pos (by omega), ei]
    cases f with
    | true =>
      rw [cond_true]
      exact ih (n + 1) j true (by omega) (by omega) ⟨fun _ => by rw [tk]; exact List.mem_append.2 (.inl (hf.1 rfl)), fun _ => rfl⟩
    | false =>
      have u := strs_get y hn
      have v := strs_get x hi
      have hf' : ¬ x[i] ∈ y.take n := fun h => by have := hf.2 h; cases this
      rw [cond_false]
      simp only [Int.toNat_natCast, u, v]
      rw [if_pos (by omega), if_pos (by omega), eq_mk (hy _ (List.getElem_mem hn)) (hx _ (List.getElem_mem hi))]
      exact ih (n + 1) j _ (by omega) (by omega) (by rw [tk, decide_eq_true_eq, List.mem_append, List.mem_singleton]; exact ⟨fun h => .inr h.symm, fun h => by rcases h with h | h; exact absurd h hf'; exact h.symm⟩)
theorem maps_loop {k : Nat} {a b : List ByteArray} {x y : List (List Nat)} (hx : octs x) (hy : octs y) (cy : climbs y) (lx : x.length ≤ 5000) (ly : y.length ≤ 5000) (hk : 5000 < k) {X D : List ByteArray} : ∀ (d i j : Nat), i + d = x.length → d < j →
    SeekMaps.l0 C k j a b X (strs x) D (strs y) (i : Int) (x.map fun s => codeI (code s y)) = SeekMaps.e0 C k a b X D := by
  intro d
  induction d with
  | zero =>
    intro i j hd hj
    obtain ⟨j, rfl⟩ : ∃ m, j = m + 1 := ⟨j - 1, by omega⟩
    rw [SeekMaps.l0_eq, cond_dec, strs_len, if_neg (by omega)]
  | succ d ih =>
    intro i j hd hj
    obtain ⟨j, rfl⟩ : ∃ m, j = m + 1 := ⟨j - 1, by omega⟩
    have hi : i < x.length := by omega
    have u := strs_get x hi
    have ei : IntKind.i64.wrap ((i : Int) + 1) = ((i + 1 : Nat) : Int) := by rw [natS, w64n (by omega)]
    have ml : (x.map fun s => codeI (code s y)).length = x.length := List.length_map _
    have mg : (x.map fun s => codeI (code s y))[i]? = some (codeI (code x[i] y)) := by simp [hi]
    have lim : (i : Int) < ((x.map fun s => codeI (code s y)).length : Int) ∧ True := ⟨by rw [ml]; omega, trivial⟩
    obtain ⟨f', f1, f2⟩ := found_loop (C := C) (k := k) (a := a) (b := b) (X := X) (D := D) (j0 := j) hx hy ly hi (m := x.map fun s => codeI (code s y)) y.length 0 k false (by omega) (by omega) (by simp)
    rw [show ((0 : Nat) : Int) = 0 from rfl] at f2
    have next := ih (i + 1) j (by omega) (by omega)
    rw [SeekMaps.l0_eq, cond_dec, strs_len, if_pos (by omega)]
    simp only [Int.toNat_natCast, mg, u, cond_dec, if_pos lim, if_pos (Int.natCast_nonneg i), f2]
    rw [SeekMaps.e1_eq]
    simp only [Int.toNat_natCast, mg, cond_dec, if_pos lim, if_pos (Int.natCast_nonneg i)]
    rw [SeekMaps.e2_eq, ei, next]
    by_cases hm : x[i] ∈ y
    · obtain ⟨n, hn, e1, e2⟩ := code_mem cy hm
      have v := strs_get y hn
      rw [e2]
      have ft : f' = true := f1.2 hm
      subst ft
      have c : codeI (some n) = (n : Int) := rfl
      rw [c, strs_len, if_neg (by omega), if_pos (by omega), if_pos (by omega), Int.toNat_natCast, v]
      simp only
      rw [eq_mk (hy _ (List.getElem_mem hn)) (hx _ (List.getElem_mem hi)), decide_eq_true e1, Bool.not_true, cond_false, decide_eq_true (by omega), beq_self_eq_true, Bool.not_true, cond_false, if_neg (by omega)]
    · rw [code_not hm]
      have ff : f' = false := by
        cases f' with
        | false => rfl
        | true => exact absurd (f1.1 rfl) hm
      subst ff
      have c : codeI none = -1 := rfl
      rw [c, strs_len, if_neg (by omega), if_neg (by omega), decide_eq_false (by omega), beq_self_eq_true, Bool.not_true, cond_false, if_neg (by omega)]
theorem sorted_two (a b : List (List Nat)) : sorted (sorted a ++ sorted b) = sorted (a ++ b) :=
  climbs_eq (sorted_climbs _) (sorted_climbs _) (fun x => by simp only [sorted_mem, List.mem_append])
theorem SeekMaps_law (h : EqFnK C) (hL : EqFnL C) (hS : EqFnS C) (hR : EqFnR C) (hP : EqFnP C) (H : EqH C) {k : Nat} (hk : big + 10 < k) (hb : 100011 < k) {a b : List (List Nat)} (ha : octs a) (hbo : octs b) :
    C k 11 [.sl false (.strs (strs a)), .sl false (.strs (strs b))] = some (.bool true, []) := by
  obtain ⟨k, rfl⟩ : ∃ m, k = m + 1 := ⟨k - 1, by omega⟩
  obtain ⟨aw, d⟩ := start h hL hS hR hP H (k := k) (by omega) (by omega) ha
  obtain ⟨_, g⟩ := start h hL hS hR hP H (k := k) (by omega) (by omega) hbo
  rw [hL.SeekMaps, SeekMaps.f_eq]
  rcases d with d | ⟨few, hr, d⟩
  · rw [Dict14.s_nil _ d]
    rcases g with g | ⟨few2, hr2, g⟩
    · rw [Dict14.s_nil _ g, Awake14.s_ok aw, Bool.not_true, cond_false, Bool.not_false, cond_true, Awake14.s_ok aw]
    · rw [Dict14.s_ok _ g, Awake14.s_ok aw, Bool.not_true, cond_false, Bool.not_false, cond_true, Awake14.s_ok aw]
  · rw [Dict14.s_ok _ d]
    rcases g with g | ⟨few2, hr2, g⟩
    · rw [Dict14.s_nil _ g, Awake14.s_ok aw, Bool.not_true, cond_false, cond_false, Bool.not_false, cond_true, Awake14.s_ok aw]
    · rw [Dict14.s_ok _ g, Awake14.s_ok aw, Bool.not_true, cond_false, cond_false, cond_false]
      have oa := octs_sorted ha
      have ob := octs_sorted hbo
      have ca := sorted_climbs a
      have cb := sorted_climbs b
      have l1 := hr.len
      have l2 := hr2.len
      have k1 := few.len
      have k2 := few2.len
      have z : [] ++ strs a ++ strs b = strs (a ++ b) := by rw [List.nil_append, strs_append]
      have oab := octs_append ha hbo
      have srt := RefSorted_spec hR (k := k) (by omega) oab (fun s hs => by
        rcases List.mem_append.1 hs with hs | hs
        · have := few.size s hs; omega
        · have := few2.size s hs; omega) (by rw [List.length_append]; omega)
      have sl := sorted_len (a ++ b)
      rw [List.length_append] at sl
      rw [SeekMap.q_ok _ _ (SeekMap_spec h hS H (by omega) oa ob cb (by omega) (by omega)), List.length_map, strs_len, cond_bne, if_pos rfl]
      have lp := maps_loop (C := C) (k := k) (a := strs a) (b := strs b) oa ob cb (by omega) (by omega) (by omega) (X := strs (sorted a)) (D := strs (sorted b)) (sorted a).length 0 k (by omega) (by omega)
      rw [show ((0 : Nat) : Int) = 0 from rfl] at lp
      rw [lp, SeekMaps.e0_eq, SeekMerge.q_ok _ _ (SeekMerge_spec h hS H (by omega) oa ob (by omega) (by omega)), if_pos (by simp [strs_len, bound]; omega), if_pos (by simp [strs_len, bound]; omega), z, RefSorted.q_ok _ srt, sorted_two,
        SameS.s_ok _ _ (SameS_spec hR (by omega) (octs_sorted oab) (octs_sorted oab) (by omega)), decide_eq_true rfl]

/-! ### SeekAll -/
theorem all_loop (h : EqFnK C) (hS : EqFnS C) {k : Nat} (hk : 100002 < k) {t : List (List Nat)} (ho : octs t) (hc : climbs t) (ht : t.length ≤ 5000) : ∀ (d i j : Nat), i + d = t.length → d < j →
    SeekAll.l0 C k j (strs t) (strs t) (i : Int) (t.map fun s => codeI (code s t)) = SeekAll.e0 C k (strs t) (strs t) (t.map fun s => codeI (code s t)) := by
  intro d
  induction d with
  | zero =>
    intro i j hd hj
    obtain ⟨j, rfl⟩ : ∃ m, j = m + 1 := ⟨j - 1, by omega⟩
    rw [SeekAll.l0_eq, cond_dec, strs_len, if_neg (by omega)]
  | succ d ih =>
    intro i j hd hj
    obtain ⟨j, rfl⟩ : ∃ m, j = m + 1 := ⟨j - 1, by omega⟩
    have hi : i < t.length := by omega
    have u := strs_get t hi
    have ei : IntKind.i64.wrap ((i : Int) + 1) = ((i + 1 : Nat) : Int) := by rw [natS, w64n (by omega)]
    have ml : (t.map fun s => codeI (code s t)).length = t.length := List.length_map _
    have mg : (t.map fun s => codeI (code s t))[i]? = some (i : Int) := by simp [hi, code_at hc hi, codeI]
    have cd := SeekCode_spec h hS hk ho hc ht (ho _ (List.getElem_mem hi))
    rw [code_at hc hi] at cd
    rw [SeekAll.l0_eq, cond_dec, strs_len, if_pos (by omega), if_pos (by omega)]
    simp only [Int.toNat_natCast, u]
    rw [SeekCode.s_ok _ _ cd, Bool.not_true, cond_false, cond_bne, if_pos rfl, if_pos (by omega), if_pos ⟨by rw [ml]; omega, by trivial⟩]
    simp only [mg]
    rw [cond_bne, if_pos rfl, ei]
    exact ih (i + 1) j (by omega) (by omega)
theorem spoil_loop {k : Nat} {a b : List ByteArray} (n : Nat) (hn : n ≤ 1000000) : ∀ (d i j : Nat) (m : List Int) (u : List ByteArray), m.length = n → u.length = n → i + d = n → d < j →
    SeekAll.l1 C k j a b (i : Int) m u = SeekAll.e1 C k a b := by
  intro d
  induction d with
  | zero =>
    intro i j m u hm hu hd hj
    obtain ⟨j, rfl⟩ : ∃ m, j = m + 1 := ⟨j - 1, by omega⟩
    rw [SeekAll.l1_eq, cond_dec, if_neg (by omega)]
  | succ d ih =>
    intro i j m u hm hu hd hj
    obtain ⟨j, rfl⟩ : ∃ m, j = m + 1 := ⟨j - 1, by omega⟩
    have ei : IntKind.i64.wrap ((i : Int) + 1) = ((i + 1 : Nat) : Int) := by rw [natS, w64n (by omega)]
    rw [SeekAll.l1_eq, cond_dec, if_pos (by omega), if_pos (by omega), if_pos ⟨by omega, rfl⟩, if_pos (by omega), if_pos ⟨by omega, rfl⟩, ei]
    exact ih (i + 1) j _ _ (by rw [List.length_set, hm]) (by rw [List.length_set, hu]) (by omega) (by omega)
theorem low_nil (t : List (List Nat)) : low [] t = 0 := lead_eq (Nat.zero_le _) (fun i hi => by omega) (fun _ => by simp [lless])
theorem pre_nil (t : List (List Nat)) : pre [] t = t.length := by
  unfold pre
  rw [low_nil, List.drop_zero]
  exact lead_eq (Nat.le_refl _) (fun i _ => by simp [isPre]) (fun h => by omega)
theorem sorted_same {t : List (List Nat)} (hc : climbs t) : sorted (t ++ t) = t :=
  climbs_eq (sorted_climbs _) hc (fun x => by rw [sorted_mem, List.mem_append]; exact ⟨fun h => by rcases h with h | h <;> exact h, .inl⟩)
theorem SeekAll_law (h : EqFnK C) (hL : EqFnL C) (hS : EqFnS C) (hR : EqFnR C) (hP : EqFnP C) (H : EqH C) {k : Nat} (hk : big + 10 < k) (hb : 100011 < k) {l : List (List Nat)} (ho : octs l) :
    C k 13 [.sl false (.strs (strs l))] = some (.bool true, []) := by
  obtain ⟨k, rfl⟩ : ∃ m, k = m + 1 := ⟨k - 1, by omega⟩
  obtain ⟨aw, d⟩ := start h hL hS hR hP H (k := k) (by omega) (by omega) ho
  rw [hL.SeekAll, SeekAll.f_eq]
  rcases d with d | ⟨few, hr, d⟩
  · rw [Dict14.s_nil _ d, Awake14.s_ok aw, Bool.not_true, cond_false, Bool.not_false, cond_true, Awake14.s_ok aw]
  · rw [Dict14.s_ok _ d, Awake14.s_ok aw, Bool.not_true, cond_false, cond_false]
    have os := octs_sorted ho
    have hc := sorted_climbs l
    have hl := hr.len
    have en : (⟨#[]⟩ : ByteArray) = mk [] := by decide
    have pf := SeekPrefix_spec h hS (k := k) (by omega) os hc (by omega) (p := []) (fun x hx => by simp at hx)
    rw [low_nil, pre_nil, Nat.zero_add] at pf
    have mp := SeekMap_spec h hS H (k := k) (by omega) os os hc (by omega) (by omega)
    have lp := all_loop h hS (k := k) (by omega) os hc (by omega) (sorted l).length 0 k (by omega) (by omega)
    rw [show ((0 : Nat) : Int) = 0 from rfl] at lp
    have sp := spoil_loop (C := C) (k := k) (a := strs (sorted l)) (b := strs (sorted l)) (sorted l).length (by omega) (sorted l).length 0 k ((sorted l).map fun s => codeI (code s (sorted l))) (strs (sorted l)) (List.length_map _) (strs_len _) (by omega) (by omega)
    rw [show ((0 : Nat) : Int) = 0 from rfl] at sp
    have same := SameS_spec hR (k := k) (by omega) os os (by omega)
    rw [decide_eq_true rfl] at same
    have mg := SeekMerge_spec h hS H (k := k) (by omega) os os (by omega) (by omega)
    rw [sorted_same hc] at mg
    rw [en, SeekPrefix.s_ok _ _ pf, cond_bne, if_pos (by rfl), strs_len, cond_bne, if_pos rfl, SeekMap.q_ok _ _ mp, lp, SeekAll.e0_eq, SeekMerge.q_ok _ _ mg, SameS.s_ok _ _ same, Bool.not_true, cond_false, sp, SeekAll.e1_eq,
      DictAll.q_ok _ (DictAll_spec hS H (by omega) (by rw [strs_len]; unfold bound; omega)), SameS.s_ok _ _ same]
end Go.Proofs.Ytfkkigbbejhfbaa
