/- FrontBuilds and FrontOpens, as statements about their printed equations. -/
import Derived.Test.YtfkkigbbejhfbaaSpS6
import Derived.Test.YtfkkigbbejhfbaaSpS7
import Derived.Test.YtfkkigbbejhfbaaFnF
namespace Go.Proofs.Ytfkkigbbejhfbaa
open Go Idl
set_option linter.unusedSimpArgs false
set_option linter.unusedVariables false
set_option maxRecDepth 100000
variable {C : Nat → CallF}

theorem DictLen_spec (h : EqFnS C) {k : Nat} (hk : 0 < k) (l : List ByteArray) : C k 32 [.pv [.sl false (.strs l)] 0] = some (.int .i64 (l.length : Int), []) := by
  obtain ⟨k, rfl⟩ : ∃ m, k = m + 1 := ⟨k - 1, by omega⟩
  rw [h.DictLen, DictLen.f_eq]
theorem DictAll_spec (h : EqFnS C) (H : EqH C) {k : Nat} (hk : 1 < k) {l : List ByteArray} (hl : l.length ≤ bound) : C k 33 [.pv [.sl false (.strs l)] 0] = some (.sl true (.strs l), []) := by
  obtain ⟨k, rfl⟩ : ∃ m, k = m + 2 := ⟨k - 2, by omega⟩
  rw [h.DictAll, DictAll.f_eq, CloneS.q_ok _ (H.cloneS k _ hl)]
theorem DictAt_in (h : EqFnS C) {k : Nat} (hk : 0 < k) {l : List (List Nat)} {i : Nat} (hi : i < l.length) : C k 37 [.pv [.sl false (.strs (strs l))] 0, .int .i64 (i : Int)] = some (.str (mk l[i]), []) := by
  obtain ⟨k, rfl⟩ : ∃ m, k = m + 1 := ⟨k - 1, by omega⟩
  have u := strs_get l hi
  rw [h.DictAt, DictAt.f_eq, strs_len]
  simp (disch := omega) only [cond_dec, cond_beq, cond_bne, cond_true, cond_false, Bool.not_true, Bool.not_false, if_pos, if_neg, Int.toNat_natCast, eq_self, and_true, true_and, bound, w64, natS, natP, u]
theorem DictAt_out (h : EqFnS C) {k : Nat} (hk : 0 < k) {l : List (List Nat)} {i : Int} (hi : i < 0 ∨ (l.length : Int) ≤ i) : C k 37 [.pv [.sl false (.strs (strs l))] 0, .int .i64 i] = some (.str ByteArray.empty, []) := by
  obtain ⟨k, rfl⟩ : ∃ m, k = m + 1 := ⟨k - 1, by omega⟩
  rw [h.DictAt, DictAt.f_eq, strs_len]
  by_cases h0 : i < 0
  · simp (disch := omega) only [cond_dec, cond_beq, cond_bne, cond_true, cond_false, Bool.not_true, Bool.not_false, if_pos, if_neg, Int.toNat_natCast, eq_self, and_true, true_and, bound, w64, natS, natP]
    rfl
  · simp (disch := omega) only [cond_dec, cond_beq, cond_bne, cond_true, cond_false, Bool.not_true, Bool.not_false, if_pos, if_neg, Int.toNat_natCast, eq_self, and_true, true_and, bound, w64, natS, natP]
    rfl

theorem rt_two : Rt [[97, 98], [97, 98, 99]] 2 := by
  refine ⟨by omega, by omega, by simp, fun s hs => ?_, fun i h0 hi => ?_⟩
  · simp at hs; rcases hs with rfl | rfl <;> simp
  · have : i = 1 := by simp at hi; omega
    subst this; decide
theorem octs_two : octs [[97, 98], [97, 98, 99]] := by
  intro s hs x hx
  simp at hs
  rcases hs with rfl | rfl <;> simp at hx <;> omega
theorem packed6 : Packed [6] [6] 3 := by
  refine ⟨rfl, fun x hx => by simp at hx; omega, fun q => ?_⟩
  by_cases hq : q < 8
  · have : ∀ q : Fin 8, bitAt [6] q.val = (decide (q.val < [6].length * 3) && ([6].getD (q.val / 3) 0).testBit (q.val % 3)) := by decide
    exact this ⟨q, hq⟩
  · rw [decide_eq_false (by simp; omega), Bool.false_and]
    unfold bitAt
    rw [List.getD_eq_getElem?_getD, List.getElem?_eq_none (by simp; omega)]; simp
theorem blen6 : blen 6 = 3 := blen_eq (by decide) (by decide) (by decide)
theorem built_two : Built [[97, 98], [97, 98, 99]] 2 [2, 2, 1, 3, 6, 2, 97, 98, 2, 1, 99] := by
  have hc : chunks 2 [[97, 98], [97, 98, 99]] = [[[97, 98], [97, 98, 99]]] := by
    rw [chunks_more (by omega) (by simp)]
    simp [chunks_nil]
  have hb : blk [[97, 98], [97, 98, 99]] = [2, 97, 98, 2, 1, 99] := by
    simp only [blk, ents, vtext, lcp, List.length_cons, List.length_nil, List.drop_succ_cons, List.drop_zero]
    rw [vput_small (by omega), vput_small (by simp), vput_small (by simp)]
    simp
  refine ⟨[1, 3, 6], ⟨[6], ?_, ?_⟩, ?_⟩
  · unfold sizes
    rw [hc]
    simp only [List.map_cons, List.map_nil, hb, List.length_cons, List.length_nil]
    have : width [6] = 3 := blen6
    rw [show 0 + 1 + 1 + 1 + 1 + 1 + 1 = 6 from rfl, this]
    exact packed6
  · unfold sizes
    rw [hc]
    simp only [List.map_cons, List.map_nil, hb, List.length_cons, List.length_nil]
    have : width [6] = 3 := blen6
    rw [show 0 + 1 + 1 + 1 + 1 + 1 + 1 = 6 from rfl, this, vput_small (by omega)]; rfl
  · unfold allBytes
    rw [hc]
    simp only [List.map_cons, List.map_nil, hb, List.length_cons, List.length_nil, List.flatten_cons, List.flatten_nil]
    rw [vput_small (by omega)]; rfl
theorem eat_all (b : List Nat) : Eat b 0 b.length b := ⟨by rw [List.drop_length]; simp, by omega, Nat.le_refl _⟩
theorem Awake13_spec (h : EqFnF C) (hS : EqFnS C) (hP : EqFnP C) (H : EqH C) (hB : EqB C) {k : Nat} (hk : big + 8 < k) : C k 24 [] = some (.bool true, []) := by
  obtain ⟨k, rfl⟩ : ∃ m, k = m + 1 := ⟨k - 1, by omega⟩
  have hk1 : 1 < k := by unfold big at hk; omega
  have s1 : [(⟨#[97, 98]⟩ : ByteArray), (⟨#[97, 98, 99]⟩ : ByteArray)] = strs [[97, 98], [97, 98, 99]] := by decide
  have ho : octets [2, 2, 1, 3, 6, 2, 97, 98, 2, 1, 99] := by intro x hx; simp at hx; omega
  have b := hB.yes k (by omega) _ 2 _ octs_two rt_two built_two
  have c := CurNew_spec hP H (k := k) hk1 (b := ints [2, 2, 1, 3, 6, 2, 97, 98, 2, 1, 99]) (by rw [ints_len]; unfold bound; simp)
  have d := FrontOpen_back hS hP H (k := k) (by omega) ho (by simp) rt_two built_two (eat_all _)
  have d' : C k 30 [.pt [.sl false (.ints .u8 (ints [2, 2, 1, 3, 6, 2, 97, 98, 2, 1, 99])), .int .i64 0, .int .i64 0]] = dictRes [2, 2, 1, 3, 6, 2, 97, 98, 2, 1, 99] ([[97, 98], [97, 98, 99]], 11, 0) := d
  unfold dictRes at d'
  simp only at d'
  have b2 : C k 26 [.sl false (.strs (strs [[97, 98], [97, 98, 99]])), .int .i64 2] = some (.tup [.sl true (.ints .u8 (ints [2, 2, 1, 3, 6, 2, 97, 98, 2, 1, 99])), .int .i64 0], []) := b
  have e := CurEnd_spec hP (k := k) hk1 (b := [2, 2, 1, 3, 6, 2, 97, 98, 2, 1, 99]) (a := 11) (e := 0) (by simp) (by simp)
  rw [if_neg (by simp)] at e
  unfold numRes at e
  simp only at e
  have at1 := DictAt_in hS (k := k) (by omega) (l := [[97, 98], [97, 98, 99]]) (i := 1) (by simp)
  have at1' : C k 37 [.pv [.sl false (.strs (strs [[97, 98], [97, 98, 99]]))] 0, .int .i64 1] = some (.str (mk [97, 98, 99]), []) := at1
  have m3 : (⟨#[97, 98, 99]⟩ : ByteArray) = mk [97, 98, 99] := by decide
  have m11 : (⟨#[2, 2, 1, 3, 6, 2, 97, 98, 2, 1, 99]⟩ : ByteArray) = mk [2, 2, 1, 3, 6, 2, 97, 98, 2, 1, 99] := by decide
  rw [h.Awake13, Awake13.f_eq, s1, FrontBuild.q_ok _ _ b2, CurNew.q_ok _ c, FrontOpen.q_ok _ _ _ d', cond_beq, if_pos rfl, bytesStr_ints, m11, eq_str, decide_eq_true rfl, cond_true, DictLen.s_ok _ (DictLen_spec hS (by omega) _), strs_len, cond_beq, if_pos (by simp),
    DictAt.s_ok _ _ at1', m3, eq_str, decide_eq_true rfl, cond_true, CurEnd.q_ok _ _ _ e, cond_beq, if_pos (by rfl), DictAll.q_ok _ (DictAll_spec hS H hk1 (by rw [strs_len]; unfold bound; simp)), strs_len]
  rfl

theorem FrontBuilds_law (h : EqFnF C) (hS : EqFnS C) (hR : EqFnR C) (hP : EqFnP C) (H : EqH C) (hB : EqB C) {k : Nat} (hk : big + 9 < k) {l : List (List Nat)} (ho : octs l) (b : Int) :
    C k 4 [.sl false (.strs (strs l)), .int .i64 b] = some (.bool true, []) := by
  obtain ⟨k, rfl⟩ : ∃ m, k = m + 1 := ⟨k - 1, by omega⟩
  have aw := Awake13_spec h hS hP H hB (k := k) (by omega)
  obtain ⟨f, f1, f2⟩ := Few13_spec hR (k := k) (by omega) (l := l)
  obtain ⟨r, r1, r2⟩ := RefRight_spec hR (k := k) (by omega) ho b
  rw [h.FrontBuilds, FrontBuilds.f_eq, Awake13.s_ok aw, Bool.not_true, cond_false, Few13.s_ok _ f2, Awake13.s_ok aw]
  cases f with
  | false => rfl
  | true =>
    rw [Bool.not_true, cond_false]
    have hk1 : k - 1 + 1 = k := by unfold big at hk; omega
    by_cases hr : Rt l b.toNat
    · have hb0 := hr.lo
      obtain ⟨n, rfl⟩ : ∃ n : Nat, b = (n : Int) := ⟨b.toNat, by omega⟩
      rw [Int.toNat_natCast] at hr r1
      obtain ⟨o, o1, o2⟩ := RefBuild_spec hR (k := k) (by omega) ho hr
      have b1 := hB.yes k (by omega) l n o ho hr o1
      have hoo : octets o := by
        obtain ⟨w, w1, rfl⟩ := o1
        refine octets_append (vput_octets 8 _ (by have := hr.len; omega)) (octets_append (vput_octets 8 _ (by have := hr.hi; omega)) (octets_append (w1.octets (sizes_lt (by have := hr.hi; omega) hr.size) ?_) ?_))
        · rw [sizes_len (by omega)]
          have := div_up_le (k := n) (by omega) l.length
          have := hr.len
          omega
        · intro x hx
          unfold allBytes at hx
          obtain ⟨y, hy, hx⟩ := List.mem_flatten.1 hx
          obtain ⟨c, hc, rfl⟩ := List.mem_map.1 hy
          obtain ⟨_, _, m3⟩ := chunks_mem l.length l c (Nat.le_refl _) hc
          exact blk_octets (fun s hs => hr.size s (m3 s hs)) (fun s hs => ho s (m3 s hs)) x hx
      have hrt : r = true := r1.2 hr
      subst hrt
      rw [FrontBuild.q_ok _ _ b1, RefRight.s_ok _ _ r2, Bool.not_true, cond_false, cond_beq, if_pos rfl, RefBuild.q_ok _ _ o2, SameB.s_ok _ _ (SameB_spec hR (by omega) hoo hoo), decide_eq_true rfl]
    · have hrf : r = false := by
        cases r with
        | false => rfl
        | true => exact absurd (r1.1 rfl) hr
      subst hrf
      have b1 := hB.no k (by omega) l b ho hr
      rw [FrontBuild.q_ok _ _ b1, RefRight.s_ok _ _ r2, Bool.not_false, cond_true, cond_beq, if_pos rfl]
      rfl
theorem built_octets {l : List (List Nat)} {n : Nat} {o : List Nat} (ho : octs l) (hr : Rt l n) (o1 : Built l n o) : octets o := by
  obtain ⟨w, w1, rfl⟩ := o1
  have h1 := hr.lo
  refine octets_append (vput_octets 8 _ (by have := hr.len; omega)) (octets_append (vput_octets 8 _ (by have := hr.hi; omega)) (octets_append (w1.octets (sizes_lt (by have := hr.hi; omega) hr.size) ?_) ?_))
  · rw [sizes_len (by omega)]
    have := div_up_le (k := n) (by omega) l.length
    have := hr.len
    omega
  · intro x hx
    unfold allBytes at hx
    obtain ⟨y, hy, hx⟩ := List.mem_flatten.1 hx
    obtain ⟨c, hc, rfl⟩ := List.mem_map.1 hy
    obtain ⟨_, _, m3⟩ := chunks_mem l.length l c (Nat.le_refl _) hc
    exact blk_octets (fun s hs => hr.size s (m3 s hs)) (fun s hs => ho s (m3 s hs)) x hx
theorem built_len {l : List (List Nat)} {n : Nat} {o : List Nat} (hr : Rt l n) (o1 : Built l n o) : o.length ≤ 17000000 := by
  obtain ⟨w, w1, rfl⟩ := o1
  have h1 := hr.lo
  have h2 := hr.hi
  have h3 := hr.len
  have hz := sizes_len (k := n) (by omega) l
  have hdv := div_up_le (k := n) (by omega) l.length
  have hwl := w1.len (sizes_lt (by omega) hr.size) (by omega)
  have hab := allBytes_len (k := n) (by omega) hr.size
  have v1 := vput_len 8 l.length (by omega)
  have v2 := vput_len 8 n (by omega)
  simp only [List.length_append]
  omega
theorem Rt.other {l : List (List Nat)} {n m : Nat} (h : Rt l n) (h1 : 1 ≤ m) (h2 : m ≤ 64) : Rt l m := ⟨h1, h2, h.len, h.size, h.up⟩
theorem opens_loop (h : EqFnF C) (hS : EqFnS C) (hR : EqFnR C) {k : Nat} (hk : big + 2 < k) {b o : List Nat} {l : List (List Nat)} {block : Nat} (ho : octs l) (hob : octets b) (hr : Rt l block) (hu : Built l block o) (he : Eat b 0 o.length o) : ∀ (d i j : Nat), i + d = block → 1 ≤ i → d < j →
    FrontOpens.l1 C k j (ints b) (strs l) (o.length : Int) (i : Int) (strs l) = some (.bool true, []) ∧ FrontOpens.l0 C k j (ints b) (strs l) (o.length : Int) (i : Int) (strs l) = some (.bool true, []) := by
  have hin := he.in_
  have hb2 := hr.hi
  have ht : b.take o.length = o := by
    have := he.at_
    rw [List.drop_zero] at this
    rw [this, List.take_left]
  have zt : ((0 : Int)).toNat = 0 := rfl
  have oo := built_octets ho hr hu
  intro d
  induction d with
  | zero =>
    intro i j hd h1 hj
    obtain ⟨j, rfl⟩ : ∃ m, j = m + 1 := ⟨j - 1, by omega⟩
    obtain rfl : i = block := by omega
    obtain ⟨r, r1, r2⟩ := RefRight_spec hR (k := k) (by omega) ho (i : Int)
    rw [Int.toNat_natCast] at r1
    have hrt : r = true := r1.2 hr
    subst hrt
    obtain ⟨o', p1, p2⟩ := RefBuild_spec hR (k := k) (by omega) ho hr
    have e1 := p1.unique hu
    subst e1
    constructor
    · rw [FrontOpens.l1_eq, cond_dec, if_pos (by omega), RefRight.s_ok _ _ r2, cond_true, RefBuild.q_ok _ _ p2, if_pos ⟨by omega, by omega, by rw [ints_len]; omega, by trivial, by trivial⟩, Int.toNat_natCast, ints_take, ht, zt, List.drop_zero, SameB.s_ok _ _ (SameB_spec hR (by omega) oo oo), decide_eq_true rfl, cond_true, DictLen.s_ok _ (DictLen_spec hS (by omega) _)]
      simp
    · rw [FrontOpens.l0_eq, cond_dec, if_pos (by omega), RefRight.s_ok _ _ r2, cond_true, RefBuild.q_ok _ _ p2, if_pos ⟨by omega, by omega, by rw [ints_len]; omega, by trivial, by trivial⟩, Int.toNat_natCast, ints_take, ht, zt, List.drop_zero, SameB.s_ok _ _ (SameB_spec hR (by omega) oo oo), decide_eq_true rfl, cond_true, DictLen.s_ok _ (DictLen_spec hS (by omega) _)]
      simp
  | succ d ih =>
    intro i j hd h1 hj
    obtain ⟨j, rfl⟩ : ∃ m, j = m + 1 := ⟨j - 1, by omega⟩
    have hri := hr.other h1 (by omega)
    obtain ⟨r, r1, r2⟩ := RefRight_spec hR (k := k) (by omega) ho (i : Int)
    rw [Int.toNat_natCast] at r1
    have hrt : r = true := r1.2 hri
    subst hrt
    obtain ⟨o', p1, p2⟩ := RefBuild_spec hR (k := k) (by omega) ho hri
    obtain ⟨i1, i2⟩ := ih (i + 1) j (by omega) (by omega) (by omega)
    have oo' := built_octets ho hri p1
    constructor
    · rw [FrontOpens.l1_eq, cond_dec, if_pos (by omega), RefRight.s_ok _ _ r2, cond_true, RefBuild.q_ok _ _ p2, if_pos ⟨by omega, by omega, by rw [ints_len]; omega, by trivial, by trivial⟩, Int.toNat_natCast, ints_take, ht, zt, List.drop_zero, SameB.s_ok _ _ (SameB_spec hR (by omega) oo' oo)]
      by_cases e : o' = o
      · rw [decide_eq_true e, cond_true, DictLen.s_ok _ (DictLen_spec hS (by omega) _)]; simp
      · rw [decide_eq_false e, cond_false, succ64 (by omega)]; exact i1
    · rw [FrontOpens.l0_eq, cond_dec, if_pos (by omega), RefRight.s_ok _ _ r2, cond_true, RefBuild.q_ok _ _ p2, if_pos ⟨by omega, by omega, by rw [ints_len]; omega, by trivial, by trivial⟩, Int.toNat_natCast, ints_take, ht, zt, List.drop_zero, SameB.s_ok _ _ (SameB_spec hR (by omega) oo' oo)]
      by_cases e : o' = o
      · rw [decide_eq_true e, cond_true, DictLen.s_ok _ (DictLen_spec hS (by omega) _)]; simp
      · rw [decide_eq_false e, cond_false, succ64 (by omega)]; exact i1
theorem FrontOpens_law (h : EqFnF C) (hS : EqFnS C) (hR : EqFnR C) (hP : EqFnP C) (H : EqH C) (hB : EqB C) {k : Nat} (hk : big + 9 < k) {b : List Nat} (ho : octets b) :
    C k 5 [.sl false (.ints .u8 (ints b))] = some (.bool true, []) := by
  obtain ⟨k, rfl⟩ : ∃ m, k = m + 1 := ⟨k - 1, by omega⟩
  have aw := Awake13_spec h hS hP H hB (k := k) (by omega)
  have hk0 : 1 < k := by unfold big at hk; omega
  rw [h.FrontOpens, FrontOpens.f_eq, Awake13.s_ok aw, Bool.not_true, cond_false, cond_dec, ints_len, Awake13.s_ok aw]
  by_cases hb : b.length > 3000
  · rw [if_pos (by omega)]
  · rw [if_neg (by omega), CurNew.q_ok _ (CurNew_spec hP H hk0 (by rw [ints_len]; unfold bound; omega))]
    obtain ⟨l, a', e', s1, s2, s3⟩ := FrontOpen_sum hS hP H (k := k) (by omega) (a := 0) ho (Nat.zero_le _) (by omega)
    unfold dictRes at s1
    simp only at s1
    rw [show ((0 : Nat) : Int) = 0 from rfl] at s1
    rw [FrontOpen.q_ok _ _ _ s1, CurGood.q_ok _ _ _ (CurGood_spec hP (by omega) ..)]
    by_cases he : e' = 0
    · subst he
      obtain ⟨block, o, r1, r2, r3, r4⟩ := s3 rfl
      have hend := r4.end_
      rw [Nat.zero_add] at hend
      subst hend
      have hin := r4.in_
      have b1 : (((0 : Nat) : Int) == 0) = true := rfl
      have e1 : (b.length : Int) - ((b.length - o.length : Nat) : Int) = (o.length : Int) := by omega
      rw [b1, Bool.not_true, cond_false, CurLeft.q_ok _ _ _ (CurLeft_spec hP (by omega) (by rw [ints_len]; exact hin) (by rw [ints_len]; omega)), DictAll.q_ok _ (DictAll_spec hS H hk0 (by rw [strs_len]; have := r1.len; unfold bound; omega)), ints_len, e1, w64n (by omega)]
      have hlo := r1.lo
      have hhi := r1.hi
      exact (opens_loop h hS hR (k := k) (by omega) r2 ho r1 r3 r4 (block - 1) 1 k (by omega) (by omega) (by unfold big at hk; omega)).2
    · have hl := s2 he
      subst hl
      have b1 : (((e' : Nat) : Int) == 0) = false := by simp; omega
      have ze : strs [] = [] := rfl
      rw [b1, Bool.not_false, cond_true, ze, DictLen.s_ok _ (DictLen_spec hS (by omega) _), cond_beq, if_pos (by rfl), DictAll.q_ok _ (DictAll_spec hS H hk0 (by unfold bound; simp)), cond_beq, if_pos (by rfl)]
      have ha : a' ≤ b.length ∨ b.length < a' := by omega
      have en : C k 23 [.pt [.sl false (.ints .u8 (ints b)), .int .i64 (a' : Int), .int .i64 (e' : Int)]] = some (.int .i64 (e' : Int), [.pt [.sl false (.ints .u8 (ints b)), .int .i64 (a' : Int), .int .i64 (e' : Int)]]) := by
        obtain ⟨k, rfl⟩ : ∃ m, k = m + 1 := ⟨k - 1, by omega⟩
        rw [hP.CurEnd, CurEnd.f_eq, cond_beq, if_neg (by omega)]
      rw [CurEnd.q_ok _ _ _ en]
      have : (((e' : Nat) : Int) != 0) = true := by simp; omega
      rw [this]
end Go.Proofs.Ytfkkigbbejhfbaa
