/- SeekBounds, SeekCodes and SeekPrefixes, as statements about their printed equations. -/
import Derived.Test.YtfkkigbbejhfbaaSpK2
namespace Go.Proofs.Ytfkkigbbejhfbaa
open Go Idl
set_option linter.unusedSimpArgs false
set_option linter.unusedVariables false
set_option maxRecDepth 100000
variable {C : Nat → CallF}

theorem lcmp_gt {a b : List Nat} : 0 < lcmp a b ↔ lless b a = true := by
  unfold lcmp
  rcases lless_tri a b with h | h | h
  · rw [if_pos h, lless_asymm h]; simp
  · subst h; simp [lless_irrefl]
  · have : a ≠ b := by rintro rfl; rw [lless_irrefl] at h; cases h
    rw [if_neg (by rw [lless_asymm h]; simp), if_neg this, h]; simp
theorem low_lt {s : List Nat} {t : List (List Nat)} {i : Nat} (h : i < low s t) : lless (t.getD i []) s = true := lead_lt (fun x => lless x s) t i h
theorem upp_lt {s : List Nat} {t : List (List Nat)} {i : Nat} (h : i < upp s t) : lless s (t.getD i []) = false := by
  have := lead_lt (fun x => !lless s x) t i h
  simpa using this
theorem upp_ge {s : List Nat} {t : List (List Nat)} (hc : climbs t) {i : Nat} (h1 : upp s t ≤ i) (h2 : i < t.length) : lless s (t.getD i []) = true := by
  have := lead_stop (fun x => !lless s x) t (by have : lead (fun x => !lless s x) t = upp s t := rfl; omega)
  have e : (!lless s (t.getD (upp s t) [])) = false := this
  exact mono_upp hc s _ i h1 h2 (by simpa using e)
theorem code_yes {s : List Nat} {t : List (List Nat)} (h : low s t < t.length ∧ t.getD (low s t) [] = s) : code s t = some (low s t) := if_pos h
theorem code_no {s : List Nat} {t : List (List Nat)} (h : ¬ (low s t < t.length ∧ t.getD (low s t) [] = s)) : code s t = none := if_neg h
theorem upp_yes {s : List Nat} {t : List (List Nat)} (hc : climbs t) (h : low s t < t.length ∧ t.getD (low s t) [] = s) : upp s t = low s t + 1 := by
  refine lead_eq (by omega) (fun i hi => ?_) (fun hi => ?_)
  · rcases Nat.lt_or_ge i (low s t) with h1 | h1
    · rw [lless_asymm (low_lt h1)]; rfl
    · have : i = low s t := by omega
      rw [this, h.2, lless_irrefl]; rfl
  · have := climbs_getD hc (show low s t < low s t + 1 by omega) hi
    rw [h.2] at this
    rw [this]; rfl
theorem upp_no {s : List Nat} {t : List (List Nat)} (hc : climbs t) (h : ¬ (low s t < t.length ∧ t.getD (low s t) [] = s)) : upp s t = low s t := by
  refine lead_eq (low_le s t) (fun i hi => ?_) (fun hi => ?_)
  · rw [lless_asymm (low_lt hi)]; rfl
  · rcases lless_tri (t.getD (low s t) []) s with g | g | g
    · rw [low_ge hc (Nat.le_refl _) hi] at g; cases g
    · exact absurd ⟨hi, g⟩ h
    · rw [g]; rfl
theorem low_iff {s : List Nat} {t : List (List Nat)} (hc : climbs t) {i : Nat} (hi : i < t.length) : lless t[i] s = true ↔ i < low s t := by
  rw [← strs_getD t hi]
  constructor
  · intro h
    rcases Nat.lt_or_ge i (low s t) with h1 | h1
    · exact h1
    · rw [low_ge hc h1 hi] at h; cases h
  · exact low_lt
theorem upp_iff {s : List Nat} {t : List (List Nat)} (hc : climbs t) {i : Nat} (hi : i < t.length) : lless s t[i] = true ↔ upp s t ≤ i := by
  rw [← strs_getD t hi]
  constructor
  · intro h
    rcases Nat.lt_or_ge i (upp s t) with h1 | h1
    · rw [upp_lt h1] at h; cases h
    · exact h1
  · exact fun h => upp_ge hc h hi

/-- the statements' beginnings: the dictionary, and what is awake -/
structure Start (C : Nat → CallF) (k : Nat) (l : List (List Nat)) : Prop where
  aw : C k 39 [] = some (.bool true, [])
  dict : (C k 38 [.sl false (.strs (strs l))] = some (.tup [.nilp, .sl false (.strs []), .bool false], [])) ∨
    (Few l ∧ Rt (sorted l) 4 ∧ C k 38 [.sl false (.strs (strs l))] = some (.tup [.pv [.sl false (.strs (strs (sorted l)))] 0, .sl false (.strs (strs (sorted l))), .bool true], []))
theorem start (h : EqFnK C) (hL : EqFnL C) (hS : EqFnS C) (hR : EqFnR C) (hP : EqFnP C) (H : EqH C) {k : Nat} (hk : big + 9 < k) (hb : 100010 < k) {l : List (List Nat)} (ho : octs l) : Start C k l := by
  refine ⟨Awake14_spec h hL hS hR hP H hk hb, ?_⟩
  obtain ⟨g, g1, g2⟩ := Dict14_spec h hS hR hP H (k := k) (by omega) ho
  cases g with
  | false => exact .inl g2
  | true => exact .inr ⟨(g1 rfl).1, (g1 rfl).2, g2⟩

theorem bounds_loop (hR : EqFnR C) {k : Nat} (hk : big < k) {t : List (List Nat)} (ho : octs t) (hc : climbs t) (hz : ∀ s, s ∈ t → s.length ≤ 4096) (ht : t.length ≤ 5000) {s : List Nat} (hs : octets s) : ∀ (d i j : Nat), i + d = t.length → d < j →
    SeekBounds.l0 C k j (mk s) (strs t) (low s t : Nat) (upp s t : Nat) (i : Int) = some (.bool true, []) := by
  intro d
  induction d with
  | zero =>
    intro i j hd hj
    obtain ⟨j, rfl⟩ : ∃ m, j = m + 1 := ⟨j - 1, by omega⟩
    rw [SeekBounds.l0_eq]
    simp (disch := omega) only [cond_dec, cond_beq, cond_bne, cond_true, cond_false, Bool.not_true, Bool.not_false, if_pos, if_neg, Int.toNat_natCast, eq_self, and_true, true_and, bound, w64, natS, natP, strs_len]
    rw [SeekBounds.e0_eq]
  | succ d ih =>
    intro i j hd hj
    obtain ⟨j, rfl⟩ : ∃ m, j = m + 1 := ⟨j - 1, by omega⟩
    have hi : i < t.length := by omega
    have u := strs_get t hi
    have c := RefCompare_spec hR hk (ho _ (List.getElem_mem hi)) hs (by have := hz _ (List.getElem_mem hi); omega)
    have e1 : decide (lcmp t[i] s < 0) = decide ((i : Int) < ((low s t : Nat) : Int)) := by
      rw [decide_eq_decide, lcmp_lt, low_iff hc hi]; omega
    have e2 : decide (lcmp t[i] s > 0) = decide ((i : Int) ≥ ((upp s t : Nat) : Int)) := by
      rw [decide_eq_decide, gt_iff_lt, lcmp_gt, upp_iff hc hi]; omega
    rw [SeekBounds.l0_eq]
    simp only [cond_dec, strs_len, Int.toNat_natCast, u]
    rw [if_pos (by omega), if_pos (by omega), RefCompare.s_ok _ _ c, e1, beq_self_eq_true, Bool.not_true, cond_false, if_pos (by omega), RefCompare.s_ok _ _ c, e2, beq_self_eq_true, Bool.not_true, cond_false, natS, w64n (by omega)]
    exact ih (i + 1) j (by omega) (by omega)
theorem SeekBounds_law (h : EqFnK C) (hL : EqFnL C) (hS : EqFnS C) (hR : EqFnR C) (hP : EqFnP C) (H : EqH C) {k : Nat} (hk : big + 10 < k) (hb : 100011 < k) {l : List (List Nat)} (ho : octs l) {s : List Nat} (hs : octets s) :
    C k 12 [.sl false (.strs (strs l)), .str (mk s)] = some (.bool true, []) := by
  obtain ⟨k, rfl⟩ : ∃ m, k = m + 1 := ⟨k - 1, by omega⟩
  obtain ⟨aw, d⟩ := start h hL hS hR hP H (k := k) (by omega) (by omega) ho
  rw [hL.SeekBounds, SeekBounds.f_eq]
  rcases d with d | ⟨few, hr, d⟩
  · rw [Dict14.s_nil _ d, Awake14.s_ok aw, Bool.not_true, cond_false, Bool.not_false, cond_true, Awake14.s_ok aw]
  · rw [Dict14.s_ok _ d, Awake14.s_ok aw, Bool.not_true, cond_false, cond_false, size_mk, cond_dec]
    by_cases h5 : (s.length : Int) > 5000
    · rw [if_pos h5, Awake14.s_ok aw]
    · rw [if_neg h5]
      have os := octs_sorted ho
      have hc := sorted_climbs l
      have hl := hr.len
      have cd := SeekCode_spec h hS (k := k) (by omega) os hc (by omega) hs
      have le := low_le s (sorted l)
      have ue := upp_le s (sorted l)
      have lp := bounds_loop hR (k := k) (by omega) os hc hr.size (by omega) hs (sorted l).length 0 k (by omega) (by unfold big at hk; omega)
      rw [show ((0 : Nat) : Int) = 0 from rfl] at lp
      rw [SeekLower.s_ok _ _ (SeekLower_spec h hS (by omega) os hc (by omega) hs), SeekUpper.s_ok _ _ (SeekUpper_spec h hS (by omega) os hc (by omega) hs), natS, w64n (by omega), strs_len]
      by_cases hy : low s (sorted l) < (sorted l).length ∧ (sorted l).getD (low s (sorted l)) [] = s
      · have hu := upp_yes hc hy
        rw [code_yes hy] at cd
        have ne : (((low s (sorted l) : Nat) : Int) != ((upp s (sorted l) : Nat) : Int)) = true := by simp; omega
        rw [SeekCode.s_ok _ _ cd, ne, beq_self_eq_true, Bool.not_true, cond_false, cond_dec, if_neg (by omega), cond_dec, if_neg (by omega), cond_dec, if_neg (by omega)]
        exact lp
      · have hu := upp_no hc hy
        rw [code_no hy] at cd
        have ne : (((low s (sorted l) : Nat) : Int) != ((upp s (sorted l) : Nat) : Int)) = false := by simp; omega
        rw [SeekCode.s_ok _ _ cd, ne, beq_self_eq_true, Bool.not_true, cond_false, cond_dec, if_neg (by omega), cond_dec, if_neg (by omega), cond_dec, if_neg (by omega)]
        exact lp

/-! ### SeekCodes -/
def hit (s : List Nat) (t : List (List Nat)) (i : Nat) : Int := if low s t < i ∧ (low s t < t.length ∧ t.getD (low s t) [] = s) then ((low s t : Nat) : Int) else -1
theorem codes_loop (hR : EqFnR C) {k : Nat} (hk : big < k) {t : List (List Nat)} (ho : octs t) (hc : climbs t) (hz : ∀ s, s ∈ t → s.length ≤ 4096) (ht : t.length ≤ 5000) {s : List Nat} (hs : octets s) {D : List ByteArray} : ∀ (d i j : Nat), i + d = t.length → d < j →
    SeekCodes.l1 C k j (mk s) D (strs t) (min i (low s t) : Nat) (min i (upp s t) : Nat) (hit s t i) (i : Int) = SeekCodes.e3 C k (mk s) D (low s t : Nat) (upp s t : Nat) (hit s t t.length) := by
  intro d
  induction d with
  | zero =>
    intro i j hd hj
    obtain ⟨j, rfl⟩ : ∃ m, j = m + 1 := ⟨j - 1, by omega⟩
    have hi : i = t.length := by omega
    subst hi
    rw [SeekCodes.l1_eq, Nat.min_eq_right (low_le s t), Nat.min_eq_right (upp_le s t)]
    simp (disch := omega) only [cond_dec, cond_beq, cond_bne, cond_true, cond_false, Bool.not_true, Bool.not_false, if_pos, if_neg, Int.toNat_natCast, eq_self, and_true, true_and, bound, w64, natS, natP, strs_len]
  | succ d ih =>
    intro i j hd hj
    obtain ⟨j, rfl⟩ : ∃ m, j = m + 1 := ⟨j - 1, by omega⟩
    have hi : i < t.length := by omega
    have u := strs_get t hi
    have c := RefCompare_spec hR hk (ho _ (List.getElem_mem hi)) hs (by have := hz _ (List.getElem_mem hi); omega)
    have e1 : lcmp t[i] s < 0 ↔ i < low s t := by rw [lcmp_lt, low_iff hc hi]
    have e2 : lcmp t[i] s ≤ 0 ↔ i < upp s t := by
      have := upp_iff (s := s) hc hi
      rw [← lcmp_gt] at this
      omega
    have e3 : lcmp t[i] s = 0 ↔ i = low s t ∧ (low s t < t.length ∧ t.getD (low s t) [] = s) := by
      rw [lcmp_zero, ← strs_getD t hi]
      constructor
      · intro e
        have : low s t = i := lead_eq (by omega) (fun m hm => by rw [← e]; exact climbs_getD hc hm hi) (fun _ => by rw [e]; exact lless_irrefl s)
        rw [this]; exact ⟨rfl, hi, e⟩
      · rintro ⟨e, _, g⟩
        rw [e]; exact g
    have n1 : ((min (i + 1) (low s t) : Nat) : Int) = if lcmp t[i] s < 0 then IntKind.i64.wrap (((min i (low s t) : Nat) : Int) + 1) else ((min i (low s t) : Nat) : Int) := by
      split
      · rename_i g; rw [natS, w64n (by omega)]; have := e1.1 g; congr 1; omega
      · rename_i g; have : ¬ i < low s t := fun x => g (e1.2 x); congr 1; omega
    have n2 : ((min (i + 1) (upp s t) : Nat) : Int) = if lcmp t[i] s ≤ 0 then IntKind.i64.wrap (((min i (upp s t) : Nat) : Int) + 1) else ((min i (upp s t) : Nat) : Int) := by
      split
      · rename_i g; rw [natS, w64n (by omega)]; have := e2.1 g; congr 1; omega
      · rename_i g; have : ¬ i < upp s t := fun x => g (e2.2 x); congr 1; omega
    have n3 : hit s t (i + 1) = if lcmp t[i] s = 0 then (i : Int) else hit s t i := by
      unfold hit
      by_cases g : lcmp t[i] s = 0
      · obtain ⟨g1, g2⟩ := e3.1 g
        rw [if_pos g, if_pos ⟨by omega, g2⟩, g1]
      · rw [if_neg g]
        by_cases g2 : low s t < t.length ∧ t.getD (low s t) [] = s
        · have : i ≠ low s t := fun x => g (e3.2 ⟨x, g2⟩)
          by_cases g3 : low s t < i
          · rw [if_pos ⟨by omega, g2⟩, if_pos ⟨g3, g2⟩]
          · rw [if_neg (fun x => by have := x.1; omega), if_neg (fun x => g3 x.1)]
        · rw [if_neg (fun x => g2 x.2), if_neg (fun x => g2 x.2)]
    have ei : IntKind.i64.wrap ((i : Int) + 1) = ((i + 1 : Nat) : Int) := by rw [natS, w64n (by omega)]
    have step := ih (i + 1) j (by omega) (by omega)
    rw [n1, n2, n3] at step
    rw [SeekCodes.l1_eq]
    simp only [cond_dec, strs_len, Int.toNat_natCast, u]
    rw [if_pos (by omega), if_pos (by omega), RefCompare.s_ok _ _ c]
    by_cases g1 : lcmp t[i] s < 0
    · have g2 : lcmp t[i] s ≤ 0 := by omega
      have g3 : ¬ lcmp t[i] s = 0 := by omega
      rw [if_pos g1, if_pos g2, if_neg g3] at step
      rw [if_pos g1, SeekCodes.e2_eq, cond_dec, if_pos g2, SeekCodes.e5_eq, cond_beq, if_neg g3, SeekCodes.e7_eq, ei]
      exact step
    · by_cases g2 : lcmp t[i] s ≤ 0
      · have g3 : lcmp t[i] s = 0 := by omega
        rw [if_neg g1, if_pos g2, if_pos g3] at step
        rw [if_neg g1, SeekCodes.e2_eq, cond_dec, if_pos g2, SeekCodes.e5_eq, cond_beq, if_pos g3, SeekCodes.e7_eq, ei]
        exact step
      · have g3 : ¬ lcmp t[i] s = 0 := by omega
        rw [if_neg g1, if_neg g2, if_neg g3] at step
        rw [if_neg g1, SeekCodes.e2_eq, cond_dec, if_neg g2, SeekCodes.e5_eq, cond_beq, if_neg g3, SeekCodes.e7_eq, ei]
        exact step
theorem SeekCodes_law (h : EqFnK C) (hL : EqFnL C) (hS : EqFnS C) (hR : EqFnR C) (hP : EqFnP C) (H : EqH C) {k : Nat} (hk : big + 10 < k) (hb : 100011 < k) {l : List (List Nat)} (ho : octs l) {s : List Nat} (hs : octets s) :
    C k 9 [.sl false (.strs (strs l)), .str (mk s)] = some (.bool true, []) := by
  obtain ⟨k, rfl⟩ : ∃ m, k = m + 1 := ⟨k - 1, by omega⟩
  obtain ⟨aw, d⟩ := start h hL hS hR hP H (k := k) (by omega) (by omega) ho
  rw [hL.SeekCodes, SeekCodes.f_eq]
  rcases d with d | ⟨few, hr, d⟩
  · rw [Dict14.s_nil _ d, Awake14.s_ok aw, Bool.not_true, cond_false, Bool.not_false, cond_true, Awake14.s_ok aw]
  · rw [Dict14.s_ok _ d, Awake14.s_ok aw, Bool.not_true, cond_false, cond_false, size_mk, cond_dec]
    by_cases h5 : (s.length : Int) > 5000
    · rw [if_pos h5, Awake14.s_ok aw]
    · rw [if_neg h5]
      have os := octs_sorted ho
      have hc := sorted_climbs l
      have hl := hr.len
      have cd := SeekCode_spec h hS (k := k) (by omega) os hc (by omega) hs
      have lw := SeekLower_spec h hS (k := k) (by omega) os hc (by omega) hs
      have up := SeekUpper_spec h hS (k := k) (by omega) os hc (by omega) hs
      have lp := codes_loop hR (k := k) (by omega) os hc hr.size (by omega) hs (D := strs (sorted l)) (sorted l).length 0 k (by omega) (by unfold big at hk; omega)
      rw [Nat.zero_min, Nat.zero_min, show hit s (sorted l) 0 = -1 from if_neg (fun x => by have := x.1; omega), show ((0 : Nat) : Int) = 0 from rfl] at lp
      rw [lp, SeekCodes.e3_eq]
      by_cases hy : low s (sorted l) < (sorted l).length ∧ (sorted l).getD (low s (sorted l)) [] = s
      · rw [code_yes hy] at cd
        rw [show hit s (sorted l) (sorted l).length = ((low s (sorted l) : Nat) : Int) from if_pos ⟨hy.1, hy⟩, SeekCode.s_ok _ _ cd, decide_eq_true (by omega), beq_self_eq_true, cond_true, cond_true, beq_self_eq_true, cond_true,
          SeekLower.s_ok _ _ lw, beq_self_eq_true, cond_true, SeekUpper.s_ok _ _ up, beq_self_eq_true]
      · rw [code_no hy] at cd
        rw [show hit s (sorted l) (sorted l).length = -1 from if_neg (fun x => hy x.2), SeekCode.s_ok _ _ cd, decide_eq_false (by omega), beq_self_eq_true, cond_true, cond_false, Bool.not_false, cond_true, beq_self_eq_true, cond_true,
          SeekLower.s_ok _ _ lw, beq_self_eq_true, cond_true, SeekUpper.s_ok _ _ up, beq_self_eq_true]
end Go.Proofs.Ytfkkigbbejhfbaa
