/- FrontBack, FrontCut and FrontKeeps, as statements about their printed equations. -/
import Derived.Test.YtfkkigbbejhfbaaLwF1
namespace Go.Proofs.Ytfkkigbbejhfbaa
open Go Idl
set_option linter.unusedSimpArgs false
set_option linter.unusedVariables false
set_option maxRecDepth 100000
variable {C : Nat → CallF}

/-! ### how few bytes there are -/
def total (l : List (List Nat)) : Nat := (l.map List.length).sum
theorem vput_two {n : Nat} (h : n < 16384) : (vput n).length ≤ 2 := (vput_len 1 n (by omega)).1
theorem vtext_two {s : List Nat} (h : s.length ≤ 4096) : (vtext s).length ≤ s.length + 2 := by
  have := vput_two (n := s.length) (by omega)
  rw [vtext, List.length_append]; omega
theorem ents_few : ∀ (r : List (List Nat)) (p : List Nat), p.length ≤ 4096 → (∀ s, s ∈ r → s.length ≤ 4096) → (ents p r).length ≤ total r + 4 * r.length
  | [], p, _, _ => by simp [ents, total]
  | s :: r, p, hp, h => by
    have ih := ents_few r s (h s (by simp)) (fun s hs => h s (by simp [hs]))
    have hl := lcp_le p s
    have hs := h s (by simp)
    have h1 := vput_two (n := lcp p s) (by omega)
    have h2 := vtext_two (s := s.drop (lcp p s)) (by rw [List.length_drop]; omega)
    rw [List.length_drop] at h2
    have e : total (s :: r) = s.length + total r := by simp [total]
    rw [e]
    simp only [ents, List.length_append, List.length_cons]
    omega
theorem blk_few {c : List (List Nat)} (h : ∀ s, s ∈ c → s.length ≤ 4096) : (blk c).length ≤ total c + 4 * c.length := by
  cases c with
  | nil => simp [blk, total]
  | cons s r =>
    have h1 := ents_few r s (h s (by simp)) (fun s hs => h s (by simp [hs]))
    have h2 := vtext_two (h s (by simp))
    have e : total (s :: r) = s.length + total r := by simp [total]
    rw [e]
    simp only [blk, List.length_append, List.length_cons]
    omega
theorem total_append (a b : List (List Nat)) : total (a ++ b) = total a + total b := by simp [total, List.sum_append]
theorem all_few : ∀ (cs : List (List (List Nat))), (∀ c, c ∈ cs → ∀ s, s ∈ c → s.length ≤ 4096) → ((cs.map blk).flatten).length ≤ total cs.flatten + 4 * cs.flatten.length
  | [], _ => by simp [total]
  | c :: cs, h => by
    have h1 := all_few cs (fun d hd => h d (by simp [hd]))
    have h2 := blk_few (h c (by simp))
    simp only [List.map_cons, List.flatten_cons, List.length_append, total_append]; omega
theorem sizes_small {k : Nat} (hk : k ≤ 64) {l : List (List Nat)} (h : ∀ s, s ∈ l → s.length ≤ 4096) : ∀ x, x ∈ sizes k l → x < 2 ^ 20 := by
  intro x hx
  obtain ⟨c, hc, rfl⟩ := List.mem_map.1 hx
  obtain ⟨h1, h2, h3⟩ := chunks_mem l.length l c (Nat.le_refl _) hc
  have := blk_len (c := c) (fun s hs => h s (h3 s hs))
  omega
theorem built_few {l : List (List Nat)} {n : Nat} {o : List Nat} (hr : Rt l n) (hf : l.length ≤ 150) (o1 : Built l n o) : o.length ≤ total l + 10 * l.length + 10 ∧ 3 ≤ o.length := by
  obtain ⟨w, ⟨p, p1, rfl⟩, rfl⟩ := o1
  have h1 := hr.lo
  have h2 := hr.hi
  have hz := sizes_len (k := n) (by omega) l
  have hdv := div_up_le (k := n) (by omega) l.length
  have hab := all_few (chunks n l) (fun c hc s hs => hr.size s ((chunks_mem l.length l c (Nat.le_refl _) hc).2.2 s hs))
  rw [chunks_flatten (by omega) l.length l (Nat.le_refl _)] at hab
  have hw := width_le (l := sizes n l) (w := 20) (sizes_small h2 hr.size)
  have v1 := vput_two (n := l.length) (by omega)
  have v2 : (vput n).length = 1 := by rw [vput_small (by omega)]; rfl
  have v3 := vput_two (n := (sizes n l).length) (by omega)
  have v4 := (vput_len 1 l.length (by omega)).2
  have v5 := (vput_len 1 (sizes n l).length (by omega)).2
  have hm : (sizes n l).length * width (sizes n l) ≤ (sizes n l).length * 20 := Nat.mul_le_mul_left _ hw
  unfold allBytes
  simp only [List.length_append, List.length_cons, p1.len]
  omega

theorem octs_sorted {l : List (List Nat)} (ho : octs l) : octs (sorted l) := fun s hs => ho s ((sorted_mem l s).1 hs)
theorem back_loop (h : EqFnF C) (hS : EqFnS C) {k : Nat} (hk : 0 < k) {t : List (List Nat)} (ho : octs t) (hs : ∀ s, s ∈ t → s.length ≤ 4096) (ht : t.length ≤ 4096) {o : List Int} : ∀ (d i j : Nat), i + d = t.length → d < j →
    FrontBack.l0 C k j (strs t) (strs t) ((total (t.take i) : Nat) : Int) (i : Int) o = FrontBack.e0 C k (strs t) (strs t) ((total t : Nat) : Int) o := by
  have tb : ∀ l : List (List Nat), (∀ s, s ∈ l → s.length ≤ 4096) → total l ≤ 4096 * l.length := by
    intro l
    induction l with
    | nil => intro _; simp [total]
    | cons x l ih =>
      intro h
      have := ih (fun s hs => h s (by simp [hs]))
      have := h x (by simp)
      have e : total (x :: l) = x.length + total l := by simp [total]
      rw [e, List.length_cons]; omega
  intro d
  induction d with
  | zero =>
    intro i j hd hj
    obtain ⟨j, rfl⟩ : ∃ m, j = m + 1 := ⟨j - 1, by omega⟩
    rw [FrontBack.l0_eq, List.take_of_length_le (by omega)]
    simp (disch := omega) only [cond_dec, cond_beq, cond_bne, cond_true, cond_false, Bool.not_true, Bool.not_false, if_pos, if_neg, Int.toNat_natCast, eq_self, and_true, true_and, bound, w64, natS, natP, strs_len]
  | succ d ih =>
    intro i j hd hj
    obtain ⟨j, rfl⟩ : ∃ m, j = m + 1 := ⟨j - 1, by omega⟩
    have hi : i < t.length := by omega
    have u := strs_get t hi
    have hsi := hs _ (List.getElem_mem hi)
    have hoi := ho _ (List.getElem_mem hi)
    have tt := tb (t.take i) (fun s hm => hs s (List.mem_of_mem_take hm))
    rw [List.length_take] at tt
    have e1 : total (t.take (i + 1)) = total (t.take i) + t[i].length := by
      rw [List.take_succ_eq_append_getElem hi, total_append]; simp [total]
    have := ih (i + 1) j (by omega) (by omega)
    rw [e1, Int.natCast_add] at this
    rw [FrontBack.l0_eq, cond_dec, strs_len, if_pos (by omega), if_pos (Int.natCast_nonneg _), Int.toNat_natCast, u]
    simp only
    rw [DictAt.s_ok _ _ (DictAt_in hS hk hi), if_pos (Int.natCast_nonneg _), eq_mk hoi hoi, decide_eq_true rfl, Bool.not_true, cond_false, size_mk, w64 (by omega) (by omega), succ64 (by omega)]
    exact this
theorem FrontBack_law (h : EqFnF C) (hS : EqFnS C) (hR : EqFnR C) (hP : EqFnP C) (H : EqH C) (hB : EqB C) {k : Nat} (hk : big + 9 < k) {l : List (List Nat)} (ho : octs l) {x : Nat} (hx : x < 256) :
    C k 6 [.sl false (.strs (strs l)), .int .u8 (x : Int)] = some (.bool true, []) := by
  obtain ⟨k, rfl⟩ : ∃ m, k = m + 1 := ⟨k - 1, by omega⟩
  have aw := Awake13_spec h hS hP H hB (k := k) (by omega)
  obtain ⟨f, f1, f2⟩ := Few13_spec hR (k := k) (by omega) (l := l)
  rw [h.FrontBack, FrontBack.f_eq, Awake13.s_ok aw, Bool.not_true, cond_false, Few13.s_ok _ f2, Awake13.s_ok aw]
  cases f with
  | false => rfl
  | true =>
    have few := f1 rfl
    have hl := few.len
    have hk0 : 1 < k := by unfold big at hk; omega
    have hk1 : k - 1 + 1 = k := by omega
    have hlen := sorted_len l
    have os := octs_sorted ho
    have eb : IntKind.i64.wrap (1 + IntKind.i64.wrap ((x : Int).tmod 64)) = ((1 + x % 64 : Nat) : Int) := by
      rw [show (x : Int).tmod 64 = ((x % 64 : Nat) : Int) from rfl, w64n (by omega), w64 (by omega) (by omega)]; omega
    rw [Bool.not_true, cond_false, RefSorted.s_ok _ (RefSorted_spec hR (by omega) ho (fun s hs => by have := few.size s hs; omega) (by omega)), eb]
    by_cases hr : Rt (sorted l) (1 + x % 64)
    · obtain ⟨o, o1, _⟩ := RefBuild_spec hR (k := k) (by omega) os hr
      have b1 := hB.yes k (by omega) (sorted l) (1 + x % 64) o os hr o1
      have oo := built_octets os hr o1
      have ol := built_len hr o1
      have d := FrontOpen_back hS hP H (k := k) (by omega) oo (by omega) hr o1 (eat_all o)
      rw [show ((0 : Nat) : Int) = 0 from rfl] at d
      unfold dictRes at d
      simp only at d
      have en := CurEnd_spec hP (k := k) hk0 (b := o) (a := o.length) (e := 0) (Nat.le_refl _) (by omega)
      rw [if_neg (by omega)] at en
      unfold numRes at en
      simp only at en
      have fw := (built_few hr (by omega) o1).1
      have lp := back_loop h hS (k := k) (by omega) (o := ints o) os hr.size hr.len (sorted l).length 0 k (by omega) (by unfold big at hk; omega)
      rw [List.take_zero, show ((total [] : Nat) : Int) = 0 from rfl, show ((0 : Nat) : Int) = 0 from rfl] at lp
      have z : (⟨#[]⟩ : ByteArray) = ByteArray.empty := rfl
      have tt : total (sorted l) ≤ 17000000 := by
        have tb : ∀ l : List (List Nat), (∀ s, s ∈ l → s.length ≤ 4096) → total l ≤ 4096 * l.length := by
          intro l
          induction l with
          | nil => intro _; simp [total]
          | cons x l ih =>
            intro h
            have := ih (fun s hs => h s (by simp [hs]))
            have := h x (by simp)
            have e : total (x :: l) = x.length + total l := by simp [total]
            rw [e, List.length_cons]; omega
        have := tb (sorted l) hr.size
        omega
      rw [FrontBuild.q_ok _ _ b1, cond_bne, if_pos rfl, CurNew.q_ok _ (CurNew_spec hP H hk0 (by rw [ints_len]; unfold bound; omega)), FrontOpen.q_ok _ _ _ d, CurEnd.q_ok _ _ _ en, cond_bne, if_pos (by rfl), DictLen.s_ok _ (DictLen_spec hS (by omega) _), cond_bne, if_pos rfl,
        DictAll.q_ok _ (DictAll_spec hS H hk0 (by rw [strs_len]; unfold bound; omega)), SameS.s_ok _ _ (SameS_spec hR (by omega) os os (by omega)), decide_eq_true rfl, Bool.not_true, cond_false, lp, FrontBack.e0_eq, z]
      rw [DictAt.s_ok _ _ (DictAt_out hS (by omega) (.inl (by omega))), eq_str, decide_eq_true rfl, cond_true, DictAt.s_ok _ _ (DictAt_out hS (by omega) (.inr (by rw [strs_len]; omega))), eq_str, decide_eq_true rfl, cond_true, strs_len, ints_len]
      have e2 : (10 : Int) * ((sorted l).length : Int) = ((10 * (sorted l).length : Nat) : Int) := by omega
      rw [e2, w64n (by omega), w64 (x := ((total (sorted l) : Nat) : Int) + ((10 * (sorted l).length : Nat) : Int)) (by omega) (by omega), w64 (by omega) (by omega), decide_eq_true (by omega)]
    · have b1 := hB.no k (by omega) (sorted l) ((1 + x % 64 : Nat) : Int) os (by rw [Int.toNat_natCast]; exact hr)
      obtain ⟨r, r1, r2⟩ := RefRight_spec hR (k := k) (by omega) os ((1 + x % 64 : Nat) : Int)
      rw [Int.toNat_natCast] at r1
      have hrf : r = false := by
        cases r with
        | false => rfl
        | true => exact absurd (r1.1 rfl) hr
      subst hrf
      rw [FrontBuild.q_ok _ _ b1, cond_bne, if_neg (by omega), RefRight.s_ok _ _ r2]
      rfl
theorem Eat.longer {b c : List Nat} {a a' : Nat} {x : List Nat} (h : Eat b a a' x) : Eat (b ++ c) a a' x := by
  have h1 := h.start
  have h2 := h.in_
  refine ⟨?_, h.end_, by rw [List.length_append]; omega⟩
  rw [List.drop_append_of_le_length h1, List.drop_append_of_le_length h2, h.at_, List.append_assoc]
theorem FrontCut_law (h : EqFnF C) (hS : EqFnS C) (hR : EqFnR C) (hP : EqFnP C) (H : EqH C) (hB : EqB C) {k : Nat} (hk : big + 9 < k) {l : List (List Nat)} (ho : octs l) {x y : Nat} (hx : x < 256) (hy : y < 65536) :
    C k 7 [.sl false (.strs (strs l)), .int .u8 (x : Int), .int .u16 (y : Int)] = some (.bool true, []) := by
  obtain ⟨k, rfl⟩ : ∃ m, k = m + 1 := ⟨k - 1, by omega⟩
  have aw := Awake13_spec h hS hP H hB (k := k) (by omega)
  obtain ⟨f, f1, f2⟩ := Few13_spec hR (k := k) (by omega) (l := l)
  rw [h.FrontCut, FrontCut.f_eq, Awake13.s_ok aw, Bool.not_true, cond_false, Few13.s_ok _ f2, Awake13.s_ok aw]
  cases f with
  | false => rfl
  | true =>
    have few := f1 rfl
    have hl := few.len
    have hk0 : 1 < k := by unfold big at hk; omega
    have hk1 : k - 1 + 1 = k := by omega
    have hlen := sorted_len l
    have os := octs_sorted ho
    have eb : IntKind.i64.wrap (1 + IntKind.i64.wrap ((x : Int).tmod 64)) = ((1 + x % 64 : Nat) : Int) := by
      rw [show (x : Int).tmod 64 = ((x % 64 : Nat) : Int) from rfl, w64n (by omega), w64 (by omega) (by omega)]; omega
    rw [Bool.not_true, cond_false, RefSorted.s_ok _ (RefSorted_spec hR (by omega) ho (fun s hs => by have := few.size s hs; omega) (by omega)), eb]
    by_cases hr : Rt (sorted l) (1 + x % 64)
    · obtain ⟨o, o1, _⟩ := RefBuild_spec hR (k := k) (by omega) os hr
      have b1 := hB.yes k (by omega) (sorted l) (1 + x % 64) o os hr o1
      have oo := built_octets os hr o1
      have ol := built_len hr o1
      have o3 := (built_few hr (by omega) o1).2
      have hcut : y % o.length < o.length := Nat.mod_lt _ (by omega)
      have zt : ((0 : Int)).toNat = 0 := rfl
      rw [FrontBuild.q_ok _ _ b1, cond_bne, if_pos rfl, ints_len, if_neg (by omega), w64n (by omega), tmod_nat', if_pos ⟨by omega, by omega, by omega, by trivial, by trivial⟩, Int.toNat_natCast, ints_take, zt, List.drop_zero]
      generalize hcv : y % o.length = cut at *
      have ot := octets_take oo cut
      have tl : (o.take cut).length = cut := by rw [List.length_take]; omega
      obtain ⟨m, a', e', s1, s2, s3⟩ := FrontOpen_sum hS hP H (k := k) (by omega) (a := 0) ot (Nat.zero_le _) (by omega)
      have hne : e' ≠ 0 := by
        intro he
        obtain ⟨block, o', r1, r2, r3, r4⟩ := s3 he
        have r5 : Eat o 0 a' o' := by
          have := r4.longer (c := o.drop cut)
          rwa [List.take_append_drop] at this
        have x1 := FrontOpen_back hS hP H (k := k) (by omega) oo (by omega) r1 r3 r5
        have x2 := FrontOpen_back hS hP H (k := k) (by omega) oo (by omega) hr o1 (eat_all o)
        rw [x1] at x2
        have hin := r4.in_
        rw [tl] at hin
        unfold dictRes at x2
        simp only [Option.some.injEq, Prod.mk.injEq, List.cons.injEq, V.pt.injEq, V.int.injEq, true_and, and_true, Int.ofNat_inj] at x2
        omega
      have hm := s2 hne
      subst hm
      unfold dictRes at s1
      simp only at s1
      rw [show ((0 : Nat) : Int) = 0 from rfl] at s1
      have b2 : (((e' : Nat) : Int) == 0) = false := by simp; omega
      have ze : strs [] = [] := rfl
      rw [CurNew.q_ok _ (CurNew_spec hP H hk0 (by rw [ints_len, tl]; unfold bound; omega)), FrontOpen.q_ok _ _ _ s1, CurGood.q_ok _ _ _ (CurGood_spec hP (by omega) ..), b2, Bool.not_false, cond_true, DictLen.s_ok _ (DictLen_spec hS (by omega) _)]
      rfl
    · have b1 := hB.no k (by omega) (sorted l) ((1 + x % 64 : Nat) : Int) os (by rw [Int.toNat_natCast]; exact hr)
      rw [FrontBuild.q_ok _ _ b1, cond_bne, if_neg (by omega)]
theorem keeps_loop (k : Nat) {t was : List ByteArray} (n : Nat) (hn : n ≤ 1000000) {d : List ByteArray} : ∀ (m i j : Nat) (x : List ByteArray), x.length = n → i + m = n → m < j → FrontKeeps.l0 C k j t d (i : Int) was x = FrontKeeps.e0 C k t d was := by
  intro m
  induction m with
  | zero =>
    intro i j x hx hi hj
    obtain ⟨j, rfl⟩ : ∃ m, j = m + 1 := ⟨j - 1, by omega⟩
    rw [FrontKeeps.l0_eq]
    simp (disch := omega) only [cond_dec, cond_beq, cond_bne, cond_true, cond_false, Bool.not_true, Bool.not_false, if_pos, if_neg, Int.toNat_natCast, eq_self, and_true, true_and, bound, w64, natS, natP]
  | succ m ih =>
    intro i j x hx hi hj
    obtain ⟨j, rfl⟩ : ∃ m, j = m + 1 := ⟨j - 1, by omega⟩
    rw [FrontKeeps.l0_eq]
    simp (disch := omega) only [cond_dec, cond_beq, cond_bne, cond_true, cond_false, Bool.not_true, Bool.not_false, if_pos, if_neg, Int.toNat_natCast, eq_self, and_true, true_and, bound, w64, natS, natP]
    exact ih (i + 1) j _ (by rw [List.length_set]; exact hx) (by omega) (by omega)
theorem FrontKeeps_law (h : EqFnF C) (hS : EqFnS C) (hR : EqFnR C) (hP : EqFnP C) (H : EqH C) (hB : EqB C) {k : Nat} (hk : big + 9 < k) {l : List (List Nat)} (ho : octs l) :
    C k 8 [.sl false (.strs (strs l))] = some (.bool true, []) := by
  obtain ⟨k, rfl⟩ : ∃ m, k = m + 1 := ⟨k - 1, by omega⟩
  have aw := Awake13_spec h hS hP H hB (k := k) (by omega)
  obtain ⟨f, f1, f2⟩ := Few13_spec hR (k := k) (by omega) (l := l)
  rw [h.FrontKeeps, FrontKeeps.f_eq, Awake13.s_ok aw, Bool.not_true, cond_false, Few13.s_ok _ f2, Awake13.s_ok aw]
  cases f with
  | false => rfl
  | true =>
    have few := f1 rfl
    have hl := few.len
    have hk0 : 1 < k := by unfold big at hk; omega
    have hk1 : k - 1 + 1 = k := by omega
    have hlen := sorted_len l
    have os := octs_sorted ho
    have e3 : (3 : Int) = ((3 : Nat) : Int) := rfl
    rw [Bool.not_true, cond_false, RefSorted.s_ok _ (RefSorted_spec hR (by omega) ho (fun s hs => by have := few.size s hs; omega) (by omega)), List.nil_append, if_pos ⟨by rw [strs_len]; simp only [List.length_nil]; unfold bound; omega, by trivial⟩]
    by_cases hr : Rt (sorted l) 3
    · obtain ⟨o, o1, _⟩ := RefBuild_spec hR (k := k) (by omega) os hr
      have b1 := hB.yes k (by omega) (sorted l) 3 o os hr o1
      have oo := built_octets os hr o1
      have ol := built_len hr o1
      have d := FrontOpen_back hS hP H (k := k) (by omega) oo (by omega) hr o1 (eat_all o)
      rw [show ((0 : Nat) : Int) = 0 from rfl] at d
      unfold dictRes at d
      simp only at d
      have b1' : C k 26 [.sl false (.strs (strs (sorted l))), .int .i64 3] = some (.tup [.sl true (.ints .u8 (ints o)), .int .i64 0], []) := b1
      have da := DictAll_spec hS H hk0 (l := strs (sorted l)) (by rw [strs_len]; unfold bound; omega)
      have ss := SameS_spec hR (k := k) (by omega) os os (by omega)
      rw [decide_eq_true rfl] at ss
      have lp := keeps_loop (C := C) k (t := strs (sorted l)) (was := strs (sorted l)) (d := strs (sorted l)) (sorted l).length (by omega) (sorted l).length 0 k (strs (sorted l)) (strs_len _) (by omega) (by unfold big at hk; omega)
      rw [show ((0 : Nat) : Int) = 0 from rfl] at lp
      rw [FrontBuild.q_ok _ _ b1', cond_bne, if_pos rfl, CurNew.q_ok _ (CurNew_spec hP H hk0 (by rw [ints_len]; unfold bound; omega)), FrontOpen.q_ok _ _ _ d, DictAll.q_ok _ da, lp, FrontKeeps.e0_eq, SameS.s_ok _ _ ss, cond_true, DictAll.q_ok _ da, SameS.s_ok _ _ ss]
    · have b1 := hB.no k (by omega) (sorted l) 3 os hr
      rw [FrontBuild.q_ok _ _ b1, cond_bne, if_neg (by omega)]
end Go.Proofs.Ytfkkigbbejhfbaa
