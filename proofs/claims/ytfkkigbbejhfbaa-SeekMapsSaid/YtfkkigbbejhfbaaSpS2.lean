/- The reference's numbers, texts and packed numbers are the program's. -/
import Derived.Test.YtfkkigbbejhfbaaSpS1
namespace Go.Proofs.Ytfkkigbbejhfbaa
open Go Idl
set_option linter.unusedSimpArgs false
set_option linter.unusedVariables false
set_option maxRecDepth 100000
variable {C : Nat → CallF}

theorem RefPut1_any (h : EqFnR C) : ∀ (d n k : Nat), n < 128 ^ (d + 1) → n < 9223372036854775808 → d < k →
    C k 72 [.int .i64 (n : Int)] = some (.sl true (.ints .u8 (ints (vput n))), []) := by
  have small : ∀ (n k : Nat), n < 128 → C (k + 1) 72 [.int .i64 (n : Int)] = some (.sl true (.ints .u8 (ints (vput n))), []) := by
    intro n k hs
    rw [h.RefPut1, RefPut1.f_eq, vput_small hs]
    simp (disch := omega) only [cond_dec, cond_beq, cond_bne, cond_true, cond_false, Bool.not_true, Bool.not_false, if_pos, if_neg, Int.toNat_natCast, eq_self, and_true, true_and, bound, w64, natS, natP, wu8]
    rfl
  intro d
  induction d with
  | zero =>
    intro n k hn hl hk
    obtain ⟨k, rfl⟩ : ∃ m, k = m + 1 := ⟨k - 1, by omega⟩
    exact small n k (by omega)
  | succ d ih =>
    intro n k hn hl hk
    obtain ⟨k, rfl⟩ : ∃ m, k = m + 1 := ⟨k - 1, by omega⟩
    by_cases hs : n < 128
    · exact small n k hs
    · have hp := ih (n / 128) k (Nat.div_lt_of_lt_mul (by rw [Nat.pow_succ] at hn; omega)) (by omega) (by omega)
      have hv := vput_len 8 (n / 128) (by omega)
      rw [h.RefPut1, RefPut1.f_eq, vput_great hs]
      have e1 : IntKind.i64.wrap ((n : Int).tdiv 128) = ((n / 128 : Nat) : Int) := by
        rw [show (n : Int).tdiv 128 = ((n / 128 : Nat) : Int) from rfl, w64 (by omega) (by omega)]
      have e2 : IntKind.u8.wrap (IntKind.i64.wrap ((n : Int).tmod 128 + 128)) = ((n % 128 + 128 : Nat) : Int) := by
        rw [show (n : Int).tmod 128 = ((n % 128 : Nat) : Int) from rfl, w64 (by omega) (by omega), wu8 (by omega) (by omega)]; rfl
      rw [e1, e2]
      simp (disch := omega) only [cond_dec, cond_beq, cond_bne, cond_true, cond_false, Bool.not_true, Bool.not_false, if_pos, if_neg, Int.toNat_natCast, eq_self, and_true, true_and, bound, w64, natS, natP]
      rw [RefPut1.q_ok _ hp]
      rw [if_pos (by simp only [List.length_cons, List.length_nil, ints_len]; omega)]
      rfl
theorem RefPut1_spec (h : EqFnR C) {k : Nat} (hk : 10 < k) {n : Nat} (hn : n < 9223372036854775808) : C k 72 [.int .i64 (n : Int)] = some (.sl true (.ints .u8 (ints (vput n))), []) :=
  RefPut1_any h 8 n k (by omega) hn (by omega)
/-- a text's bytes -/
def vtext (s : List Nat) : List Nat := vput s.length ++ s
theorem vtext_octets {s : List Nat} (h : octets s) (hl : s.length < 9223372036854775808) : octets (vtext s) := octets_append (vput_octets 8 s.length (by omega)) h
theorem vtext_len {s : List Nat} (hl : s.length < 9223372036854775808) : (vtext s).length ≤ s.length + 9 ∧ s.length < (vtext s).length := by
  have := vput_len 8 s.length (by omega)
  rw [vtext, List.length_append]; omega
theorem RefText1_spec (h : EqFnR C) {k : Nat} (hk : 11 < k) {s : List Nat} (ho : octets s) (hs : s.length ≤ 1000000000) : C k 73 [.str (mk s)] = some (.sl true (.ints .u8 (ints (vtext s))), []) := by
  obtain ⟨k, rfl⟩ : ∃ m, k = m + 1 := ⟨k - 1, by omega⟩
  have hv := vput_len 8 s.length (by omega)
  rw [h.RefText1, RefText1.f_eq, size_mk, RefPut1.q_ok _ (RefPut1_spec h (by omega) (by omega)), strBytes_sb, sb_mk ho]
  simp (disch := omega) only [cond_dec, cond_beq, cond_bne, cond_true, cond_false, Bool.not_true, Bool.not_false, if_pos, if_neg, Int.toNat_natCast, eq_self, and_true, true_and, bound, w64, natS, natP, ints_len, ints_append]
  rfl
theorem CurPutText_spec (h : EqFnS C) (hP : EqFnP C) {k : Nat} (hk : big + 1 < k) {s : List Nat} (ho : octets s) (hs : s.length ≤ 1000000000) : C k 97 [.str (mk s)] = some (.sl true (.ints .u8 (ints (vtext s))), []) := by
  obtain ⟨k, rfl⟩ : ∃ m, k = m + 1 := ⟨k - 1, by omega⟩
  have hv := vput_len 8 s.length (by omega)
  rw [h.CurPutText, CurPutText.f_eq, size_mk, CurPut.q_ok _ (CurPut_spec hP (by omega) (by omega)), strBytes_sb, sb_mk ho]
  simp (disch := omega) only [cond_dec, cond_beq, cond_bne, cond_true, cond_false, Bool.not_true, Bool.not_false, if_pos, if_neg, Int.toNat_natCast, eq_self, and_true, true_and, bound, w64, natS, natP, ints_len, ints_append]
  rfl
theorem power_loop (k : Nat) {n : Nat} (hn : n ≤ 60) : ∀ (d i j : Nat), i + d = n → d < j → RefPower.l0 C k j (n : Int) ((2 ^ i : Nat) : Int) (i : Int) = some (.int .i64 ((2 ^ n : Nat) : Int), []) := by
  intro d
  induction d with
  | zero =>
    intro i j hd hj
    obtain ⟨j, rfl⟩ : ∃ m, j = m + 1 := ⟨j - 1, by omega⟩
    obtain rfl : i = n := by omega
    rw [RefPower.l0_eq]
    simp (disch := omega) only [cond_dec, cond_beq, cond_bne, cond_true, cond_false, Bool.not_true, Bool.not_false, if_pos, if_neg, Int.toNat_natCast, eq_self, and_true, true_and, bound, w64, natS, natP]
    rw [RefPower.e0_eq]
  | succ d ih =>
    intro i j hd hj
    obtain ⟨j, rfl⟩ : ∃ m, j = m + 1 := ⟨j - 1, by omega⟩
    have hp : 2 ^ (i + 1) ≤ 2 ^ 60 := Nat.pow_le_pow_right (by omega) (by omega)
    have e : 2 * ((2 ^ i : Nat) : Int) = ((2 ^ (i + 1) : Nat) : Int) := by rw [Nat.pow_succ]; omega
    rw [RefPower.l0_eq, e, w64n (n := 2 ^ (i + 1)) (by omega)]
    simp (disch := omega) only [cond_dec, cond_beq, cond_bne, cond_true, cond_false, Bool.not_true, Bool.not_false, if_pos, if_neg, Int.toNat_natCast, eq_self, and_true, true_and, bound, w64, natS, natP]
    exact ih (i + 1) j (by omega) (by omega)
theorem RefPower_spec (h : EqFnR C) {k : Nat} (hk : 100 < k) {n : Nat} (hn : n ≤ 60) : C k 113 [.int .i64 (n : Int)] = some (.int .i64 ((2 ^ n : Nat) : Int), []) := by
  obtain ⟨k, rfl⟩ : ∃ m, k = m + 1 := ⟨k - 1, by omega⟩
  rw [h.RefPower, RefPower.f_eq]
  exact power_loop k hn n 0 k (by omega) (by omega)
/-- the least width that is enough for a number, from a width on -/
theorem blen_le_iff (n w : Nat) : blen n ≤ w ↔ n < 2 ^ w := ⟨fun h => lt_blen w n h, fun h => blen_lt w n h⟩
theorem width_up (h : EqFnR C) {k : Nat} (hk : 100 < k) {l : List Nat} {i : Nat} (hi : i < l.length) (hx : l.getD i 0 < 4294967296) {j0 : Nat} : ∀ (d w j : Nat), max w (blen (l.getD i 0)) = w + d → w ≤ 32 → d < j →
    RefWidth.l1 C k j j0 (ints l) (w : Int) (i : Int) = RefWidth.e1 C k j0 (ints l) ((max w (blen (l.getD i 0)) : Nat) : Int) (i : Int) := by
  intro d
  induction d with
  | zero =>
    intro w j hd hw hj
    obtain ⟨j, rfl⟩ : ∃ m, j = m + 1 := ⟨j - 1, by omega⟩
    have hlt : l.getD i 0 < 2 ^ w := (blen_le_iff _ _).1 (by omega)
    rw [RefWidth.l1_eq, if_pos (Int.natCast_nonneg _), get_nat l hi]
    simp only
    rw [RefPower.s_ok _ (RefPower_spec h hk (by omega)), cond_dec, if_neg (by omega), hd]
    rfl
  | succ d ih =>
    intro w j hd hw hj
    obtain ⟨j, rfl⟩ : ∃ m, j = m + 1 := ⟨j - 1, by omega⟩
    have hb : blen (l.getD i 0) ≤ 32 := blen_lt 32 _ hx
    have hge : ¬ l.getD i 0 < 2 ^ w := fun hc => by have := (blen_le_iff (l.getD i 0) w).2 hc; omega
    have e : max w (blen (l.getD i 0)) = max (w + 1) (blen (l.getD i 0)) := by omega
    rw [RefWidth.l1_eq, if_pos (Int.natCast_nonneg _), get_nat l hi]
    simp only
    rw [RefPower.s_ok _ (RefPower_spec h hk (by omega)), cond_dec, if_pos (by omega), succ64 (by omega), ih (w + 1) j (by omega) (by omega) (by omega), ← e]
theorem width_loop (h : EqFnR C) {k : Nat} (hk : 100 < k) {l : List Nat} (hx : ∀ x, x ∈ l → x < 4294967296) (hl : l.length ≤ 1000000000) : ∀ (d i w j : Nat), i + d = l.length → w ≤ 32 → d < j →
    RefWidth.l0 C k j (ints l) (w : Int) (i : Int) = some (.int .i64 (((l.drop i).foldl (fun w x => max w (blen x)) w : Nat) : Int), []) := by
  intro d
  induction d with
  | zero =>
    intro i w j hd hw hj
    obtain ⟨j, rfl⟩ : ∃ m, j = m + 1 := ⟨j - 1, by omega⟩
    rw [RefWidth.l0_eq, List.drop_of_length_le (by omega)]
    simp (disch := omega) only [cond_dec, cond_beq, cond_bne, cond_true, cond_false, Bool.not_true, Bool.not_false, if_pos, if_neg, Int.toNat_natCast, eq_self, and_true, true_and, bound, w64, natS, natP, ints_len]
    rw [RefWidth.e0_eq]; rfl
  | succ d ih =>
    intro i w j hd hw hj
    obtain ⟨j, rfl⟩ : ∃ m, j = m + 1 := ⟨j - 1, by omega⟩
    have hi : i < l.length := by omega
    have hxi : l.getD i 0 < 4294967296 := by rw [getD_get hi]; exact hx _ (List.getElem_mem hi)
    have hb : blen (l.getD i 0) ≤ 32 := blen_lt 32 _ hxi
    rw [RefWidth.l0_eq]
    simp (disch := omega) only [cond_dec, cond_beq, cond_bne, cond_true, cond_false, Bool.not_true, Bool.not_false, if_pos, if_neg, Int.toNat_natCast, eq_self, and_true, true_and, bound, w64, natS, natP, ints_len]
    rw [width_up h hk hi hxi (max w (blen (l.getD i 0)) - w) w k (by omega) hw (by omega), RefWidth.e1_eq, succ64 (by omega), ih (i + 1) _ j (by omega) (by omega) (by omega), List.drop_eq_getElem_cons hi, List.foldl_cons, getD_get hi]
theorem blen_mono {a b : Nat} (h : a ≤ b) : blen a ≤ blen b := (blen_le_iff _ _).2 (Nat.lt_of_le_of_lt h (lt_blen _ _ (Nat.le_refl _)))
theorem fold_width : ∀ (l : List Nat) (m : Nat), l.foldl (fun w x => max w (blen x)) (blen m) = blen (l.foldl max m)
  | [], m => rfl
  | x :: l, m => by
    have e : max (blen m) (blen x) = blen (max m x) := by
      rcases Nat.le_total m x with h | h
      · have := blen_mono h; rw [Nat.max_eq_right h]; omega
      · have := blen_mono h; rw [Nat.max_eq_left h]; omega
    rw [List.foldl_cons, List.foldl_cons, e, fold_width l (max m x)]
theorem RefWidth_spec (h : EqFnR C) {k : Nat} (hk : big < k) {l : List Nat} (hx : ∀ x, x ∈ l → x < 4294967296) (hl : l.length ≤ 1000000000) : C k 100 [.sl false (.ints .i64 (ints l))] = some (.int .i64 ((width l : Nat) : Int), []) := by
  unfold big at hk
  obtain ⟨k, rfl⟩ : ∃ m, k = m + 1 := ⟨k - 1, by omega⟩
  rw [h.RefWidth, RefWidth.f_eq]
  have := width_loop h (k := k) (by omega) hx hl l.length 0 0 k (by omega) (by omega) (by omega)
  have fw := fold_width l 0
  rw [blen_zero] at fw
  rw [List.drop_zero, fw] at this
  exact this

/-! ### bit by bit -/
/-- so many bits of packed numbers -/
structure Part (b l : List Nat) (w n : Nat) : Prop where
  len : b.length = (n + 7) / 8
  oct : octets b
  bit : ∀ q, bitAt b q = (decide (q < n) && (l.getD (q / w) 0).testBit (q % w))
theorem bit_push {b : List Nat} (q : Nat) : bitAt (b ++ [0]) q = bitAt b q := by
  unfold bitAt
  simp only [List.getD_eq_getElem?_getD]
  by_cases h : q / 8 < b.length
  · rw [List.getElem?_append_left h]
  · rw [List.getElem?_append_right (by omega), List.getElem?_eq_none (l := b) (by omega)]
    cases e : q / 8 - b.length <;> simp
theorem add_bit {v r : Nat} (hr : r < 8) (hv : v < 256) (h : v.testBit r = false) : v + 2 ^ r = v ||| (1 <<< r) ∧ v + 2 ^ r < 256 := by
  have key : ∀ (v : Fin 256) (r : Fin 8), (v.val.testBit r.val = false) → v.val + 2 ^ r.val = v.val ||| (1 <<< r.val) ∧ v.val + 2 ^ r.val < 256 := by decide +kernel
  exact key ⟨v, hv⟩ ⟨r, hr⟩ h
theorem Part.end {b l : List Nat} {w n : Nat} (h : Part b l w n) : bitAt b n = false := by rw [h.bit, decide_eq_false (Nat.lt_irrefl _), Bool.false_and]
/-- one bit more, in a byte that is there -/
theorem Part.step {b l : List Nat} {w n i r : Nat} (hl : b.length = (n + 1 + 7) / 8) (ho : octets b) (hb : ∀ q, bitAt b q = (decide (q < n) && (l.getD (q / w) 0).testBit (q % w))) (hn : n = i * w + r) (hr : r < w) :
    Part (putBit b n ((l.getD i 0).testBit r)) l w (n + 1) := by
  refine ⟨by rw [putBit_len]; exact hl, octets_put ho _ _, fun q => ?_⟩
  rw [bit_put (by omega), hb]
  by_cases e : q = n
  · subst e
    have e1 : q / w = i := by rw [hn, Nat.mul_comm, Nat.mul_add_div (by omega), Nat.div_eq_of_lt hr, Nat.add_zero]
    have e2 : q % w = r := by rw [hn, Nat.mul_comm, Nat.mul_add_mod, Nat.mod_eq_of_lt hr]
    rw [e1, e2]
    simp
  · have : decide (q < n + 1) = decide (q < n) := by rw [decide_eq_decide]; omega
    rw [this]; simp [e]
theorem tdiv_nat' (a b : Nat) : (a : Int).tdiv (b : Int) = ((a / b : Nat) : Int) := rfl
theorem tmod_nat' (a b : Nat) : (a : Int).tmod (b : Int) = ((a % b : Nat) : Int) := rfl
theorem div_pow_mod (x r : Nat) : (x / 2 ^ r % 2 = 1) ↔ x.testBit r = true := by
  rw [Nat.testBit_eq_decide_div_mod_eq, decide_eq_true_eq]
theorem put3_row (h : EqFnR C) {k : Nat} (hk : 200 < k) {l : List Nat} {w i j0 : Nat} (hw : w ≤ 32) (hi : i < l.length) (hx : ∀ x, x ∈ l → x < 4294967296) (hl : l.length ≤ 1000000000) : ∀ (d r j : Nat) (b : List Nat), r + d = w → d < j → Part b l w (i * w + r) →
    ∃ b', Part b' l w (i * w + w) ∧ RefPut3.l1 C k j j0 (ints l) (w : Int) ((i * w + r : Nat) : Int) (i : Int) (r : Int) (ints b) = RefPut3.e2 C k j0 (ints l) (w : Int) ((i * w + w : Nat) : Int) (i : Int) (ints b') := by
  intro d
  induction d with
  | zero =>
    intro r j b hd hj hb
    obtain ⟨j, rfl⟩ : ∃ m, j = m + 1 := ⟨j - 1, by omega⟩
    obtain rfl : r = w := by omega
    refine ⟨b, hb, ?_⟩
    rw [RefPut3.l1_eq, cond_dec, if_neg (by omega)]
  | succ d ih =>
    intro r j b hd hj hb
    obtain ⟨j, rfl⟩ : ∃ m, j = m + 1 := ⟨j - 1, by omega⟩
    obtain ⟨n, hn⟩ : ∃ n, n = i * w + r := ⟨_, rfl⟩
    have hiw : i * w ≤ i * 32 := Nat.mul_le_mul_left _ hw
    -- the byte is there
    have main : ∀ c : List Nat, c.length = (n + 1 + 7) / 8 → octets c → (∀ q, bitAt c q = (decide (q < n) && (l.getD (q / w) 0).testBit (q % w))) →
        ∃ b', Part b' l w (i * w + w) ∧ RefPut3.e1 C k j0 j (ints l) (w : Int) (n : Int) (i : Int) (r : Int) (ints c) = RefPut3.e2 C k j0 (ints l) (w : Int) ((i * w + w : Nat) : Int) (i : Int) (ints b') := by
      intro c hc ho hbit
      have hp := Part.step (i := i) (r := r) hc ho hbit hn (by omega)
      obtain ⟨b', b1, b2⟩ := ih (r + 1) j (putBit c n ((l.getD i 0).testBit r)) (by omega) (by omega) (by rw [hn] at hp ⊢; exact hp)
      refine ⟨b', b1, ?_⟩
      rw [← b2]
      have next : ∀ v, RefPut3.e3 C k j0 j (ints l) (w : Int) (n : Int) (i : Int) (r : Int) (ints v) = RefPut3.l1 C k j j0 (ints l) (w : Int) ((i * w + (r + 1) : Nat) : Int) (i : Int) ((r + 1 : Nat) : Int) (ints v) := by
        intro v
        rw [RefPut3.e3_eq, RefPut3.e4_eq, succ64 (by omega), succ64 (by omega), show n + 1 = i * w + (r + 1) by omega]
      have p1 := RefPower_spec h (k := k) (by omega) (n := r) (by omega)
      have hpos : 0 < 2 ^ r := Nat.pow_pos (by omega)
      have hr32 : 2 ^ r ≤ 2 ^ 32 := Nat.pow_le_pow_right (by omega) (by omega)
      have hxi : l.getD i 0 < 4294967296 := by rw [getD_get hi]; exact hx _ (List.getElem_mem hi)
      have hdiv : l.getD i 0 / 2 ^ r ≤ l.getD i 0 := Nat.div_le_self _ _
      rw [RefPut3.e1_eq, if_pos (Int.natCast_nonneg _), get_nat l hi]
      simp only
      rw [RefPower.s_ok _ p1, if_neg (by omega), tdiv_nat', w64n (n := l.getD i 0 / 2 ^ r) (by omega), show (((l.getD i 0 / 2 ^ r : Nat) : Int)).tmod 2 = ((l.getD i 0 / 2 ^ r % 2 : Nat) : Int) from rfl, cond_beq]
      have hput : ∀ hbit1 : (l.getD i 0).testBit r = true, ints (putBit c n ((l.getD i 0).testBit r)) = (ints c).set (n / 8) ((c.getD (n / 8) 0 + 2 ^ (n % 8) : Nat) : Int) := by
        intro hbit1
        have hcn : (c.getD (n / 8) 0).testBit (n % 8) = false := by
          have := hbit n
          rw [decide_eq_false (Nat.lt_irrefl _), Bool.false_and] at this
          exact this
        have hcv : c.getD (n / 8) 0 < 256 := by rw [getD_get (by omega)]; exact ho _ (List.getElem_mem _)
        rw [(add_bit (Nat.mod_lt _ (by omega)) hcv hcn).1, hbit1, ints_set]; rfl
      by_cases hbt : (l.getD i 0).testBit r = true
      · have hcn : (c.getD (n / 8) 0).testBit (n % 8) = false := by
          have := hbit n
          rw [decide_eq_false (Nat.lt_irrefl _), Bool.false_and] at this
          exact this
        have hcv : c.getD (n / 8) 0 < 256 := by rw [getD_get (by omega)]; exact ho _ (List.getElem_mem _)
        have h256 := (add_bit (Nat.mod_lt n (by omega : 0 < 8)) hcv hcn).2
        have p2 := RefPower_spec h (k := k) (by omega) (n := n % 8) (by omega)
        have e8 : IntKind.i64.wrap ((n : Int).tdiv 8) = ((n / 8 : Nat) : Int) := by
          rw [show (n : Int).tdiv 8 = ((n / 8 : Nat) : Int) from rfl, w64 (by omega) (by omega)]
        have e9 : (n : Int).tmod 8 = ((n % 8 : Nat) : Int) := rfl
        have hsm : 2 ^ (n % 8) < 256 := by omega
        rw [if_pos (by have := (div_pow_mod (l.getD i 0) r).2 hbt; omega), e8, e9, if_pos (Int.natCast_nonneg _), if_pos ⟨by rw [ints_len]; omega, by trivial⟩, get_nat c (by omega)]
        simp only
        rw [RefPower.s_ok _ p2, if_pos (Int.natCast_nonneg _), if_pos ⟨by rw [ints_len]; omega, by trivial⟩, wu8n (n := 2 ^ (n % 8)) (by omega), ← Int.natCast_add, wu8n (by omega), Int.toNat_natCast, ← hput hbt, next]
      · have hfalse : (l.getD i 0).testBit r = false := by simpa using hbt
        have hne : ¬ (l.getD i 0 / 2 ^ r % 2 = 1) := fun e => hbt ((div_pow_mod _ _).1 e)
        have hsame : putBit c n ((l.getD i 0).testBit r) = c := by
          rw [hfalse]; unfold putBit
          simp only [Bool.toNat_false, Nat.zero_shiftLeft, Nat.or_zero]
          rw [getD_get (by omega)]
          exact List.set_getElem_self _
        rw [if_neg (by omega), next, hsame]
    rw [RefPut3.l1_eq, cond_dec, if_pos (by omega), show (((i * w + r : Nat) : Int)).tmod 8 = (((i * w + r) % 8 : Nat) : Int) from rfl, cond_beq, ← hn]
    have hlen := hb.len
    by_cases h8 : n % 8 = 0
    · have e0 : ints b ++ [(0 : Int)] = ints (b ++ [0]) := by simp [ints]
      rw [if_pos (by omega), if_pos ⟨by rw [ints_len]; simp only [List.length_cons, List.length_nil]; unfold bound; omega, by trivial⟩, e0]
      refine main (b ++ [0]) ?_ ?_ (fun q => ?_)
      · rw [List.length_append, hlen, ← hn]; simp only [List.length_cons, List.length_nil]; omega
      · refine octets_append hb.oct (fun x hx => ?_)
        simp at hx; omega
      · rw [bit_push, hb.bit, ← hn]
    · rw [if_neg (by omega)]
      exact main b (by rw [hlen, ← hn]; omega) hb.oct (fun q => by rw [hb.bit, ← hn])
theorem put3_loop (h : EqFnR C) {k : Nat} (hk : 200 < k) {l : List Nat} {w : Nat} (hw : w ≤ 32) (hx : ∀ x, x ∈ l → x < 2 ^ w) (hl : l.length ≤ 1000000000) : ∀ (d i j : Nat) (b : List Nat), i + d = l.length → d < j → Part b l w (i * w) →
    ∃ b', Part b' l w (l.length * w) ∧ RefPut3.l0 C k j (ints l) (w : Int) ((i * w : Nat) : Int) (i : Int) (ints b) = some (.tup [.sl true (.ints .u8 (ints b')), .int .i64 0], []) := by
  intro d
  induction d with
  | zero =>
    intro i j b hd hj hb
    obtain ⟨j, rfl⟩ : ∃ m, j = m + 1 := ⟨j - 1, by omega⟩
    obtain rfl : i = l.length := by omega
    refine ⟨b, hb, ?_⟩
    rw [RefPut3.l0_eq, cond_dec, ints_len, if_neg (by omega), RefPut3.e0_eq]
  | succ d ih =>
    intro i j b hd hj hb
    obtain ⟨j, rfl⟩ : ∃ m, j = m + 1 := ⟨j - 1, by omega⟩
    have hi : i < l.length := by omega
    have hp32 : 2 ^ w ≤ 2 ^ 32 := Nat.pow_le_pow_right (by omega) hw
    have hxi : l.getD i 0 < 2 ^ w := by rw [getD_get hi]; exact hx _ (List.getElem_mem hi)
    obtain ⟨b', b1, b2⟩ := put3_row h hk (j0 := j) hw hi (fun x hx' => Nat.lt_of_lt_of_le (hx x hx') hp32) hl w 0 k b (by omega) (by omega) (by simpa using hb)
    have e : i * w + w = (i + 1) * w := by rw [Nat.add_mul, Nat.one_mul]
    rw [e] at b1
    obtain ⟨c, c1, c2⟩ := ih (i + 1) j b' (by omega) (by omega) b1
    refine ⟨c, c1, ?_⟩
    have pw := RefPower_spec h (k := k) (by omega) (n := w) (by omega)
    rw [RefPut3.l0_eq, cond_dec, ints_len, if_pos (by omega), if_pos (Int.natCast_nonneg _), get_nat l hi]
    simp only
    rw [cond_dec, if_neg (by omega), if_pos (Int.natCast_nonneg _), RefPower.s_ok _ pw, cond_dec, if_neg (by omega)]
    refine Eq.trans ?_ c2
    rw [Nat.add_zero] at b2
    rw [show ((0 : Nat) : Int) = 0 from rfl] at b2
    rw [b2, RefPut3.e2_eq, succ64 (by omega), e]
theorem RefPut3_spec (h : EqFnR C) {k : Nat} (hk : big < k) {l : List Nat} {w : Nat} (hw : w ≤ 32) (hx : ∀ x, x ∈ l → x < 2 ^ w) (hl : l.length ≤ 1000000000) :
    ∃ b, Packed b l w ∧ C k 99 [.sl false (.ints .i64 (ints l)), .int .i64 (w : Int)] = some (.tup [.sl true (.ints .u8 (ints b)), .int .i64 0], []) := by
  unfold big at hk
  obtain ⟨k, rfl⟩ : ∃ m, k = m + 1 := ⟨k - 1, by omega⟩
  obtain ⟨b, b1, b2⟩ := put3_loop h (k := k) (by omega) hw hx hl l.length 0 k [] (by omega) (by omega) ⟨by simp, fun x hx => by simp at hx, fun q => by simp [bitAt]⟩
  refine ⟨b, ⟨b1.len, b1.oct, b1.bit⟩, ?_⟩
  rw [h.RefPut3, RefPut3.f_eq, cond_dec, if_neg (by omega), cond_dec, if_neg (by omega)]
  simpa [ints] using b2
theorem RefWrite3_spec (h : EqFnR C) {k : Nat} (hk : big + 1 < k) {l : List Nat} (hx : ∀ x, x ∈ l → x < 4294967296) (hn : l.length ≤ 1000000000) :
    ∃ o, Written l o ∧ C k 74 [.sl false (.ints .i64 (ints l))] = some (.sl true (.ints .u8 (ints o)), []) := by
  obtain ⟨k, rfl⟩ : ∃ m, k = m + 1 := ⟨k - 1, by omega⟩
  have hw : width l ≤ 32 := width_le hx
  obtain ⟨b, h1, h2⟩ := RefPut3_spec h (k := k) (by omega) hw (fun x hx => width_ok hx) hn
  have hv := vput_len 8 l.length (by omega)
  have hbl := h1.len
  have hmul : l.length * width l ≤ l.length * 32 := Nat.mul_le_mul_left _ hw
  refine ⟨_, ⟨b, h1, rfl⟩, ?_⟩
  have e2 : (ints (vput l.length) ++ [((width l : Nat) : Int)]) ++ ints b = ints (vput l.length ++ width l :: b) := by simp [ints]
  have wd := RefWidth_spec h (k := k) (by omega) hx hn
  rw [h.RefWrite3, RefWrite3.f_eq, RefWidth.s_ok _ wd, RefPut3.q_ok _ _ h2, ints_len, RefPut1.q_ok _ (RefPut1_spec h (by unfold big at hk; omega) (by omega)), RefWidth.s_ok _ wd, wu8 (by omega) (by omega), e2,
    if_pos ⟨by rw [ints_len]; simp only [List.length_cons, List.length_nil]; unfold bound; omega, by trivial⟩, if_pos ⟨by rw [List.length_append, ints_len, ints_len]; simp only [List.length_cons, List.length_nil]; unfold bound; omega, by trivial⟩]
end Go.Proofs.Ytfkkigbbejhfbaa
