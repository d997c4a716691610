/- What sorting and compacting make of strings; seek's Map and Merge; the dictionaries of seek's statements. -/
import Derived.Test.YtfkkigbbejhfbaaSpK1
import Derived.Test.YtfkkigbbejhfbaaFnL
namespace Go.Proofs.Ytfkkigbbejhfbaa
open Go Idl
set_option linter.unusedSimpArgs false
set_option linter.unusedVariables false
set_option maxRecDepth 100000
variable {C : Nat → CallF}

/-! ### bytes and numbers -/
def nat8 (z : List UInt8) : List Nat := z.map UInt8.toNat
theorem lt_nat8 : ∀ (x y : List UInt8), x < y ↔ lless (nat8 x) (nat8 y) = true
  | x, [] => by simp [nat8, lless]
  | [], y :: l => by simp [nat8, lless]
  | x :: a, y :: b => by
    rw [List.cons_lt_cons_iff, lt_nat8 a b]
    simp only [nat8, List.map_cons, lless, Bool.or_eq_true, decide_eq_true_eq, Bool.and_eq_true, UInt8.lt_iff_toNat_lt, UInt8.toNat_inj]
theorem le_nat8 (x y : List UInt8) : x ≤ y ↔ lless (nat8 y) (nat8 x) = false := by
  rw [← List.not_lt, lt_nat8]; simp
theorem nat8_mk {x : List Nat} (h : octets x) : nat8 (mk x).data.toList = x := sb_mk h
theorem mk_nat8 (z : List UInt8) : mk (nat8 z) = ⟨z.toArray⟩ := by
  unfold mk nat8
  rw [List.map_map]
  congr 2
  conv => rhs; rw [← List.map_id z]
  apply List.map_congr_left
  intro a _
  simp
theorem nat8_inj {x y : List UInt8} (h : nat8 x = nat8 y) : x = y := by
  have := congrArg mk h
  rw [mk_nat8, mk_nat8] at this
  have := congrArg (fun b : ByteArray => b.data.toList) this
  simpa using this
theorem strsB_nat8 (l : List (List UInt8)) : strsB l = strs (l.map nat8) := by
  unfold strsB strs
  rw [List.map_map]
  exact List.map_congr_left (fun z _ => (mk_nat8 z).symm)
theorem strsU_mem {l : List (List Nat)} (ho : octs l) (x : List Nat) : (∃ z, z ∈ strsU (strs l) ∧ nat8 z = x) ↔ x ∈ l := by
  unfold strsU strs
  rw [List.map_map]
  constructor
  · rintro ⟨z, hz, rfl⟩
    obtain ⟨y, hy, rfl⟩ := List.mem_map.1 hz
    rw [Function.comp, nat8_mk (ho y hy)]; exact hy
  · intro hx
    exact ⟨_, List.mem_map_of_mem hx, nat8_mk (ho x hx)⟩

/-! ### compacting what rises -/
theorem compact_mem (zs : List (List UInt8)) (x : List UInt8) : x ∈ Lib.compact zs ↔ x ∈ zs := by
  unfold Lib.compact Lib.compactUpTo
  simp only [List.mem_map, List.mem_filter, List.mem_range]
  constructor
  · rintro ⟨i, ⟨hi, _⟩, rfl⟩
    simp [hi]
  · intro hx
    obtain ⟨i, hi, rfl⟩ := List.getElem_of_mem hx
    induction i with
    | zero => exact ⟨0, ⟨hi, by simp [Lib.keeps]⟩, by simp [hi]⟩
    | succ i ih =>
      by_cases e : zs[i + 1] = zs[i]
      · obtain ⟨j, hj, e2⟩ := ih (by omega) (List.getElem_mem _)
        exact ⟨j, hj, by rw [e2, e]⟩
      · refine ⟨i + 1, ⟨hi, ?_⟩, by simp [hi]⟩
        simp only [Lib.keeps, decide_eq_true_eq]
        right
        rw [Nat.add_sub_cancel]
        simp [hi, show i < zs.length by omega, e]
theorem compact_climbs {zs : List (List UInt8)} (h : zs.Pairwise (fun a b => lless (nat8 b) (nat8 a) = false)) : (Lib.compact zs).Pairwise (fun a b => lless (nat8 a) (nat8 b) = true) := by
  have at_ : ∀ i j, i ≤ j → j < zs.length → lless (nat8 zs.toArray[j]!) (nat8 zs.toArray[i]!) = false := by
    intro i j hij hj
    rcases Nat.lt_or_ge i j with h1 | h1
    · have := List.pairwise_iff_getElem.1 h i j (by omega) hj h1
      simpa [hj, show i < zs.length by omega] using this
    · have : i = j := by omega
      rw [this]; exact lless_irrefl _
  unfold Lib.compact Lib.compactUpTo
  rw [List.pairwise_map, List.pairwise_filter]
  refine List.Pairwise.imp_of_mem ?_ List.pairwise_lt_range
  intro i j hi hj hij _ hk
  have hj' := List.mem_range.1 hj
  simp only [Lib.keeps, decide_eq_true_eq] at hk
  have hne : zs.toArray[j]! ≠ zs.toArray[j - 1]! := by rcases hk with h | h; omega; exact h
  have h1 := at_ i (j - 1) (by omega) (by omega)
  have h2 := at_ (j - 1) j (by omega) hj'
  rcases lless_tri (nat8 zs.toArray[i]!) (nat8 zs.toArray[j]!) with h | h | h
  · exact h
  · exfalso
    rw [h] at h1
    rcases lless_tri (nat8 zs.toArray[j]!) (nat8 zs.toArray[j - 1]!) with g | g | g
    · rw [g] at h2; cases h2
    · exact hne (nat8_inj g)
    · rw [g] at h1; cases h1
  · have := at_ i j (by omega) hj'
    rw [h] at this; cases this
theorem merge_strs {l : List (List Nat)} (ho : octs l) : compactS (sortS (strs l)) = strs (sorted l) := by
  have e : strsU (sortS (strs l)) = (strsU (strs l)).mergeSort fun x y => decide (x ≤ y) := by
    unfold sortS strsU strsB
    rw [List.map_map]
    conv => rhs; rw [← List.map_id (List.mergeSort _ _)]
    apply List.map_congr_left
    intro z _
    simp
  unfold compactS
  rw [e, strsB_nat8]
  congr 1
  have hp : ((strsU (strs l)).mergeSort fun x y => decide (x ≤ y)).Pairwise (fun a b => lless (nat8 b) (nat8 a) = false) := by
    have := List.pairwise_mergeSort (le := fun (x y : List UInt8) => decide (x ≤ y)) (fun a b c h1 h2 => by
      simp only [decide_eq_true_eq] at h1 h2 ⊢
      rw [le_nat8] at h1 h2 ⊢
      exact nless_trans h1 h2) (fun a b => by
      simp only [Bool.or_eq_true, decide_eq_true_eq]
      rw [le_nat8, le_nat8]
      cases h : lless (nat8 b) (nat8 a) with
      | false => exact .inl rfl
      | true => exact .inr (lless_asymm h)) (strsU (strs l))
    refine this.imp (fun {a b} h => ?_)
    rwa [decide_eq_true_eq, le_nat8] at h
  refine climbs_eq ?_ (sorted_climbs l) (fun x => ?_)
  · unfold climbs
    rw [List.pairwise_map]
    exact compact_climbs hp
  · rw [sorted_mem, ← strsU_mem ho x, List.mem_map]
    constructor
    · rintro ⟨z, hz, rfl⟩
      rw [compact_mem, List.mem_mergeSort] at hz
      exact ⟨z, hz, rfl⟩
    · rintro ⟨z, hz, rfl⟩
      exact ⟨z, by rw [compact_mem, List.mem_mergeSort]; exact hz, rfl⟩

theorem sortS_len (l : List ByteArray) : (sortS l).length = l.length := by simp [sortS, strsB, strsU]
theorem SeekMerge_spec (h : EqFnK C) (hS : EqFnS C) (H : EqH C) {k : Nat} (hk : 2 < k) {a b : List (List Nat)} (ha : octs a) (hb : octs b) (la : a.length ≤ 5000) (lb : b.length ≤ 5000) :
    C k 47 [.pv [.sl false (.strs (strs a))] 0, .pv [.sl false (.strs (strs b))] 0] = some (.sl true (.strs (strs (sorted (a ++ b)))), []) := by
  obtain ⟨k, rfl⟩ : ∃ m, k = m + 1 := ⟨k - 1, by omega⟩
  rw [h.SeekMerge, SeekMerge.f_eq, DictAll.q_ok _ (DictAll_spec hS H (by omega) (by rw [strs_len]; unfold bound; omega)), DictAll.q_ok _ (DictAll_spec hS H (by omega) (by rw [strs_len]; unfold bound; omega)), strs_append]
  simp (disch := omega) only [cond_dec, cond_beq, cond_bne, cond_true, cond_false, Bool.not_true, Bool.not_false, if_pos, if_neg, Int.toNat_natCast, eq_self, and_true, true_and, bound, w64, natS, natP, sortS_len, strs_len, List.length_append]
  rw [merge_strs (octs_append ha hb)]

/-! ### codes of the one in the other -/
def codeI (c : Option Nat) : Int := match c with | some i => (i : Int) | none => -1
theorem map_loop (h : EqFnK C) (hS : EqFnS C) {k : Nat} (hk : 100002 < k) {x y : List (List Nat)} (hx : octs x) (hy : octs y) (cy : climbs y) (lx : x.length ≤ 5000) (ly : y.length ≤ 5000) : ∀ (d i j : Nat), i + d = x.length → d < j →
    SeekMap.l0 C k j (strs y) (x.length : Int) (i : Int) ((x.take i).map fun s => codeI (code s y)) (strs x) = some (.sl true (.ints .i64 (x.map fun s => codeI (code s y))), []) := by
  intro d
  induction d with
  | zero =>
    intro i j hd hj
    obtain ⟨j, rfl⟩ : ∃ m, j = m + 1 := ⟨j - 1, by omega⟩
    rw [SeekMap.l0_eq, List.take_of_length_le (by omega)]
    simp (disch := omega) only [cond_dec, cond_beq, cond_bne, cond_true, cond_false, Bool.not_true, Bool.not_false, if_pos, if_neg, Int.toNat_natCast, eq_self, and_true, true_and, bound, w64, natS, natP]
    rw [SeekMap.e1_eq]
  | succ d ih =>
    intro i j hd hj
    obtain ⟨j, rfl⟩ : ∃ m, j = m + 1 := ⟨j - 1, by omega⟩
    have hi : i < x.length := by omega
    have u := strs_get x hi
    have := ih (i + 1) j (by omega) (by omega)
    rw [List.take_succ_eq_append_getElem hi, List.map_append] at this
    have step : SeekMap.e0 C k j (strs y) (codeI (code x[i] y)) (x.length : Int) (i : Int) ((x.take i).map fun s => codeI (code s y)) (strs x) = some (.sl true (.ints .i64 (x.map fun s => codeI (code s y))), []) := by
      rw [SeekMap.e0_eq]
      simp (disch := omega) only [cond_dec, cond_beq, cond_bne, cond_true, cond_false, Bool.not_true, Bool.not_false, if_pos, if_neg, Int.toNat_natCast, eq_self, and_true, true_and, bound, w64, natS, natP, List.length_map, List.length_take, List.length_cons, List.length_nil]
      rw [SeekMap.e2_eq]
      simp (disch := omega) only [cond_dec, cond_beq, cond_bne, cond_true, cond_false, Bool.not_true, Bool.not_false, if_pos, if_neg, Int.toNat_natCast, eq_self, and_true, true_and, bound, w64, natS, natP]
      exact this
    have hcode := SeekCode_spec h hS hk hy cy ly (hx _ (List.getElem_mem hi))
    rw [SeekMap.l0_eq]
    simp (disch := omega) only [cond_dec, cond_beq, cond_bne, cond_true, cond_false, Bool.not_true, Bool.not_false, if_pos, if_neg, Int.toNat_natCast, eq_self, and_true, true_and, bound, w64, natS, natP, strs_len, u]
    cases hc : code x[i] y with
    | none =>
      rw [hc] at hcode step
      rw [SeekCode.s_ok _ _ hcode, Bool.not_false, cond_true]
      exact step
    | some m =>
      rw [hc] at hcode step
      rw [SeekCode.s_ok _ _ hcode, Bool.not_true, cond_false]
      exact step
theorem SeekMap_spec (h : EqFnK C) (hS : EqFnS C) (H : EqH C) {k : Nat} (hk : 100003 < k) {x y : List (List Nat)} (hx : octs x) (hy : octs y) (cy : climbs y) (lx : x.length ≤ 5000) (ly : y.length ≤ 5000) :
    C k 46 [.pv [.sl false (.strs (strs x))] 0, .pv [.sl false (.strs (strs y))] 0] = some (.sl true (.ints .i64 (x.map fun s => codeI (code s y))), []) := by
  obtain ⟨k, rfl⟩ : ∃ m, k = m + 1 := ⟨k - 1, by omega⟩
  rw [h.SeekMap, SeekMap.f_eq, DictAll.q_ok _ (DictAll_spec hS H (by omega) (by rw [strs_len]; unfold bound; omega)), strs_len]
  exact map_loop h hS (by omega) hx hy cy lx ly x.length 0 k (by omega) (by omega)

/-! ### dictionaries -/
def dictV (t : List (List Nat)) : V := .tup [.pv [.sl false (.strs (strs t))] 0, .sl false (.strs (strs t)), .bool true]
def noDictV : V := .tup [.nilp, .sl false (.strs []), .bool false]
theorem Dict14_of (h : EqFnK C) (hS : EqFnS C) (hR : EqFnR C) (hP : EqFnP C) (H : EqH C) {k : Nat} (hk : big + 8 < k) {l : List (List Nat)} (ho : octs l) {f : Bool} (f1 : f = true → Few l) (f2 : C (k - 1) 25 [.sl false (.strs (strs l))] = some (.bool f, [])) :
    ∃ g : Bool, (g = true ↔ f = true ∧ Rt (sorted l) 4) ∧ C k 38 [.sl false (.strs (strs l))] = some (if g = true then dictV (sorted l) else noDictV, []) := by
  obtain ⟨k, rfl⟩ : ∃ m, k = m + 1 := ⟨k - 1, by omega⟩
  rw [Nat.add_sub_cancel] at f2
  rw [h.Dict14, Dict14.f_eq, Few13.s_ok _ f2]
  cases f with
  | false => exact ⟨false, by simp, rfl⟩
  | true =>
    have few := f1 rfl
    have hl := few.len
    have hlen := sorted_len l
    have os := octs_sorted ho
    obtain ⟨r, r1, r2⟩ := RefRight_spec hR (k := k) (by omega) os (4 : Int)
    have r1 : r = true ↔ Rt (sorted l) 4 := r1
    refine ⟨r, by simp [r1], ?_⟩
    rw [Bool.not_true, cond_false, RefSorted.s_ok _ (RefSorted_spec hR (by omega) ho (fun s hs => by have := few.size s hs; omega) (by omega)), RefRight.s_ok _ _ r2]
    cases r with
    | false => rfl
    | true =>
      have hr := r1.1 rfl
      rw [if_pos rfl]
      obtain ⟨o, o1, o2⟩ := RefBuild_spec hR (k := k) (by omega) os hr
      have o2 : C k 29 [.sl false (.strs (strs (sorted l))), .int .i64 4] = some (.sl true (.ints .u8 (ints o)), []) := o2
      have oo := built_octets os hr o1
      have ol := built_len hr o1
      have d := FrontOpen_back hS hP H (k := k) (by omega) oo (by omega) hr o1 (eat_all o)
      rw [show ((0 : Nat) : Int) = 0 from rfl] at d
      unfold dictRes at d
      simp only at d
      have hk0 : 1 < k := by unfold big at hk; omega
      rw [Bool.not_true, cond_false, RefBuild.q_ok _ _ o2, CurNew.q_ok _ (CurNew_spec hP H hk0 (by rw [ints_len]; unfold bound; omega)), FrontOpen.q_ok _ _ _ d, DictLen.s_ok _ (DictLen_spec hS (by omega) _)]
      simp [dictV]
theorem Dict14_spec (h : EqFnK C) (hS : EqFnS C) (hR : EqFnR C) (hP : EqFnP C) (H : EqH C) {k : Nat} (hk : big + 8 < k) {l : List (List Nat)} (ho : octs l) :
    ∃ g : Bool, (g = true → Few l ∧ Rt (sorted l) 4) ∧ C k 38 [.sl false (.strs (strs l))] = some (if g = true then dictV (sorted l) else noDictV, []) := by
  obtain ⟨f, f1, f2⟩ := Few13_spec hR (k := k - 1) (by omega) (l := l)
  obtain ⟨g, g1, g2⟩ := Dict14_of h hS hR hP H hk ho f1 f2
  exact ⟨g, fun e => ⟨f1 (g1.1 e).1, (g1.1 e).2⟩, g2⟩

/-! ### awake -/
theorem few_three (h : EqFnR C) {k : Nat} (hk : 100 < k) : C k 25 [.sl false (.strs (strs [[98], [97, 98], [97]]))] = some (.bool true, []) := by
  obtain ⟨k, rfl⟩ : ∃ m, k = m + 6 := ⟨k - 6, by omega⟩
  have f : C (k + 5) 68 [.sl false (.strs (strs [[98], [97, 98], [97]]))] = some (.bool true, []) := by
    have s0 : (strs [[98], [97, 98], [97]])[0]? = some (mk [98]) := rfl
    have s1 : (strs [[98], [97, 98], [97]])[1]? = some (mk [97, 98]) := rfl
    have s2 : (strs [[98], [97, 98], [97]])[2]? = some (mk [97]) := rfl
    have z0 : ((0 : Int)).toNat = 0 := rfl
    have z1 : ((1 : Int)).toNat = 1 := rfl
    have z2 : ((2 : Int)).toNat = 2 := rfl
    have w : ∀ n : Nat, n < 100 → IntKind.i64.wrap (n : Int) = (n : Int) := fun n hn => w64n (by omega)
    have w1 : IntKind.i64.wrap (0 + 1) = 1 := by decide
    have w2 : IntKind.i64.wrap (1 + 1) = 2 := by decide
    have w3 : IntKind.i64.wrap (2 + 1) = 3 := by decide
    have w4 : IntKind.i64.wrap (0 + 1) = 1 := by decide
    have w5 : IntKind.i64.wrap (1 + 2) = 3 := by decide
    have w6 : IntKind.i64.wrap (3 + 1) = 4 := by decide
    have l3 : (strs [[98], [97, 98], [97]]).length = 3 := rfl
    have m1 : ((mk [98]).size : Int) = 1 := by rw [size_mk]; rfl
    have m2 : ((mk [97, 98]).size : Int) = 2 := by rw [size_mk]; rfl
    have m3 : ((mk [97]).size : Int) = 1 := by rw [size_mk]; rfl
    rw [h.Few07, Few07.f_eq, Few07.l0_eq]
    simp only [l3, z0, s0, m1, w1, w4]
    rw [cond_dec, if_pos (by decide), cond_dec, if_pos (by decide), if_pos (by decide), cond_dec, if_neg (by decide), if_pos (by decide), Few07.l0_eq]
    simp only [l3, z1, s1, m2, w2, w5]
    rw [cond_dec, if_pos (by decide), cond_dec, if_pos (by decide), if_pos (by decide), cond_dec, if_neg (by decide), if_pos (by decide), Few07.l0_eq]
    simp only [l3, z2, s2, m3, w3, w6]
    rw [cond_dec, if_pos (by decide), cond_dec, if_pos (by decide), if_pos (by decide), cond_dec, if_neg (by decide), if_pos (by decide), Few07.l0_eq]
    simp only [l3]
    rw [cond_dec, if_neg (by decide), Few07.e0_eq]
    simp only [l3]
    rw [cond_dec, if_pos (by decide)]
    rfl
  rw [h.Few13, Few13.f_eq, strs_len]
  simp only [List.length_cons, List.length_nil]
  rw [cond_dec, if_pos (by decide), Few07.s_ok _ f]
theorem rt_three : Rt [[97], [97, 98], [98]] 4 := by
  refine ⟨by omega, by omega, by simp, fun s hs => ?_, fun i h0 hi => ?_⟩
  · simp at hs; rcases hs with rfl | rfl | rfl <;> simp
  · have : i = 1 ∨ i = 2 := by simp at hi; omega
    rcases this with rfl | rfl <;> decide
theorem octs_three : octs [[98], [97, 98], [97]] := by
  intro s hs x hx
  simp at hs
  rcases hs with rfl | rfl | rfl <;> simp at hx <;> omega
theorem Awake14_spec (h : EqFnK C) (hL : EqFnL C) (hS : EqFnS C) (hR : EqFnR C) (hP : EqFnP C) (H : EqH C) {k : Nat} (hk : big + 9 < k) (hb : 100010 < k) : C k 39 [] = some (.bool true, []) := by
  obtain ⟨k, rfl⟩ : ∃ m, k = m + 1 := ⟨k - 1, by omega⟩
  have hs : sorted [[98], [97, 98], [97]] = [[97], [97, 98], [98]] := by decide
  obtain ⟨g, g1, g2⟩ := Dict14_of h hS hR hP H (k := k) (by omega) octs_three (f := true) (fun _ => ⟨by simp, fun s hs => by simp at hs; rcases hs with rfl | rfl | rfl <;> simp⟩) (few_three hR (by omega))
  rw [hs] at g1 g2
  have hg := g1.2 ⟨rfl, rt_three⟩
  subst hg
  have g2 : C k 38 [.sl false (.strs (strs [[98], [97, 98], [97]]))] = some (.tup [.pv [.sl false (.strs (strs [[97], [97, 98], [98]]))] 0, .sl false (.strs (strs [[97], [97, 98], [98]])), .bool true], []) := g2
  have e0 : [(⟨#[98]⟩ : ByteArray), (⟨#[97, 98]⟩ : ByteArray), (⟨#[97]⟩ : ByteArray)] = strs [[98], [97, 98], [97]] := by decide
  have ot : octs [[97], [97, 98], [98]] := by rw [← hs]; exact octs_sorted octs_three
  have ct : climbs [[97], [97, 98], [98]] := by rw [← hs]; exact sorted_climbs _
  have oa : octets [97] := by intro x hx; simp at hx; omega
  have ob : octets [98] := by intro x hx; simp at hx; omega
  have oab : octets [97, 98] := by intro x hx; simp at hx; omega
  have m1 : (⟨#[97]⟩ : ByteArray) = mk [97] := by decide
  have m2 : (⟨#[98]⟩ : ByteArray) = mk [98] := by decide
  have m3 : (⟨#[97, 98]⟩ : ByteArray) = mk [97, 98] := by decide
  have q1 := SeekPrefix_spec h hS (k := k) (by omega) ot ct (by simp) oa
  have q2 := SeekCode_spec h hS (k := k) (by omega) ot ct (by simp) ob
  have q3 := SeekLower_spec h hS (k := k) (by omega) ot ct (by simp) oab
  have q4 := SeekUpper_spec h hS (k := k) (by omega) ot ct (by simp) oab
  have q5 := SeekMap_spec h hS H (k := k) (by omega) ot ot ct (by simp) (by simp)
  have q6 := SeekMerge_spec h hS H (k := k) (by omega) ot ot (by simp) (by simp)
  have v1 : low [97] [[97], [97, 98], [98]] = 0 := by decide
  have v2 : pre [97] [[97], [97, 98], [98]] = 2 := by decide
  have v3 : code [98] [[97], [97, 98], [98]] = some 2 := by decide
  have v4 : low [97, 98] [[97], [97, 98], [98]] = 1 := by decide
  have v5 : upp [97, 98] [[97], [97, 98], [98]] = 2 := by decide
  have v6 : (sorted ([[97], [97, 98], [98]] ++ [[97], [97, 98], [98]])).length = 3 := by decide
  rw [v1, v2] at q1
  rw [v3] at q2
  rw [v4] at q3
  rw [v5] at q4
  rw [hL.Awake14, Awake14.f_eq, e0, Dict14.q_ok _ g2, Bool.not_true, cond_false, m1, m2, m3, SeekPrefix.s_ok _ _ q1, SeekCode.s_ok _ _ q2, cond_beq, if_pos (by rfl), cond_beq, if_pos (by rfl), cond_true, cond_beq, if_pos (by rfl),
    SeekLower.s_ok _ _ q3, cond_beq, if_pos (by rfl), SeekUpper.s_ok _ _ q4, cond_beq, if_pos (by rfl), SeekMap.q_ok _ _ q5, List.length_map, cond_beq, if_pos (by rfl), SeekMerge.q_ok _ _ q6, strs_len, v6]
  rfl
end Go.Proofs.Ytfkkigbbejhfbaa
