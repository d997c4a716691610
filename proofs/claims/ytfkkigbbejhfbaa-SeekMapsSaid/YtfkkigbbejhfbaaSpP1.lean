/- Packed numbers: what size, Put and Get compute. -/
import Derived.Test.YtfkkigbbejhfbaaNum
import Derived.Test.YtfkkigbbejhfbaaFnP
namespace Go.Proofs.Ytfkkigbbejhfbaa
open Go Idl
set_option linter.unusedSimpArgs false
set_option linter.unusedVariables false
variable {C : Nat → CallF}

theorem tdiv8 (p : Nat) : (p : Int).tdiv 8 = ((p / 8 : Nat) : Int) := rfl
theorem tmod8 (p : Nat) : (p : Int).tmod 8 = ((p % 8 : Nat) : Int) := rfl
theorem get_nat (l : List Nat) {i : Nat} (h : i < l.length) : (ints l)[((i : Nat) : Int).toNat]? = some ((l.getD i 0 : Nat) : Int) := by
  rw [Int.toNat_natCast, ints_get, List.getElem?_eq_getElem h, List.getD_eq_getElem?_getD, List.getElem?_eq_getElem h]; rfl

theorem PackSize_spec (h : EqFnP C) {k : Nat} (hk : 0 < k) {n w : Nat} (hb : n * w < 1000000000000000000) :
    C k 57 [.int .i64 (n : Int), .int .i64 (w : Int)] = some (.int .i64 (((n * w + 7) / 8 : Nat) : Int), []) := by
  obtain ⟨k, rfl⟩ : ∃ m, k = m + 1 := ⟨k - 1, by omega⟩
  rw [h.PackSize, PackSize.f_eq, ← Int.natCast_mul]
  have e : ((n * w : Nat) : Int) + 8 - 1 = ((n * w + 7 : Nat) : Int) := by omega
  rw [w64 (x := ((n * w : Nat) : Int)) (by omega) (by omega), w64 (x := ((n * w : Nat) : Int) + 8) (by omega) (by omega), e, w64 (x := ((n * w + 7 : Nat) : Int)) (by omega) (by omega), tdiv8, w64 (by omega) (by omega)]

theorem at_idx {i w k : Nat} (h : i * w + k < 1000000000000000000) :
    IntKind.i64.wrap ((IntKind.i64.wrap ((IntKind.i64.wrap ((i : Int) * (w : Int))) + (k : Int))).tdiv 8) = (((i * w + k) / 8 : Nat) : Int) ∧
    (IntKind.i64.wrap ((IntKind.i64.wrap ((i : Int) * (w : Int))) + (k : Int))).tmod 8 = (((i * w + k) % 8 : Nat) : Int) := by
  rw [← Int.natCast_mul, w64 (x := ((i * w : Nat) : Int)) (by omega) (by omega)]
  have e : ((i * w : Nat) : Int) + (k : Int) = ((i * w + k : Nat) : Int) := by omega
  rw [e, w64 (x := ((i * w + k : Nat) : Int)) (by omega) (by omega), tdiv8, tmod8, w64 (by omega) (by omega)]
  exact ⟨rfl, rfl⟩
theorem succ64 {k : Nat} (h : k < 1000000000000000000) : IntKind.i64.wrap ((k : Int) + 1) = ((k + 1 : Nat) : Int) := by
  rw [w64 (by omega) (by omega)]; omega

theorem put_val {v x k r : Nat} (hv : v < 256) (hx : x < 9223372036854775808) (hk : k ≤ 64) (hr : r < 8) :
    IntKind.u8.wrap ((BitVec.ofInt IntKind.u8.bits (v : Int) ||| BitVec.ofInt IntKind.u8.bits (IntKind.u8.wrap ((IntKind.u8.wrap (IntKind.i64.wrap ((BitVec.ofInt IntKind.i64.bits ((x : Int).fdiv (2 ^ (min (k : Int).toNat IntKind.i64.bits))) &&& BitVec.ofInt IntKind.i64.bits 1).toNat))) * 2 ^ (min ((r : Nat) : Int).toNat IntKind.u8.bits)))).toNat) = ((v ||| ((x.testBit k).toNat <<< r) : Nat) : Int) := by
  have e1 : (x : Int).fdiv (2 ^ (min (k : Int).toNat IntKind.i64.bits)) = ((x >>> k : Nat) : Int) := shr_nat hk
  have h1 : x >>> k ≤ x := by rw [Nat.shiftRight_eq_div_pow]; exact Nat.div_le_self _ _
  have e2 : IntKind.i64.wrap ((BitVec.ofInt IntKind.i64.bits ((x >>> k : Nat) : Int) &&& BitVec.ofInt IntKind.i64.bits 1).toNat) = (((x.testBit k).toNat : Nat) : Int) := by
    rw [← shr_and_one]
    exact and64 (a := x >>> k) (b := 1) (by omega) (by omega)
  have h2 : (x.testBit k).toNat ≤ 1 := by cases x.testBit k <;> simp
  have h3 : (x.testBit k).toNat <<< r < 256 := by
    rw [Nat.shiftLeft_eq]
    have h4 : 2 ^ r ≤ 2 ^ 7 := Nat.pow_le_pow_right (by omega) (by omega)
    have := Nat.mul_le_mul h2 h4
    omega
  rw [e1, e2, wu8 (x := (((x.testBit k).toNat : Nat) : Int)) (by omega) (by omega), shl_nat (by simp only [IntKind.bits]; omega), wu8 (x := (((x.testBit k).toNat <<< r : Nat) : Int)) (Int.natCast_nonneg _) (by omega)]
  exact or8 hv h3

/-- a number's bits, from one on, put behind a place -/
def putRow (b : List Nat) (p x k : Nat) : Nat → List Nat
  | 0 => b
  | d + 1 => putRow (putBit b (p + k) (x.testBit k)) p x (k + 1) d
theorem putRow_len (p x : Nat) : ∀ (d k : Nat) (b : List Nat), (putRow b p x k d).length = b.length
  | 0, k, b => rfl
  | d + 1, k, b => by rw [putRow, putRow_len p x d, putBit_len]
theorem putRow_octets (p x : Nat) : ∀ (d k : Nat) (b : List Nat), octets b → octets (putRow b p x k d)
  | 0, k, b, h => h
  | d + 1, k, b, h => putRow_octets p x d (k + 1) _ (octets_put h _ _)
theorem bit_putRow (p x : Nat) : ∀ (d k : Nat) (b : List Nat) (q : Nat), p + k + d ≤ 8 * b.length →
    bitAt (putRow b p x k d) q = (bitAt b q || (decide (p + k ≤ q ∧ q < p + k + d) && x.testBit (q - p)))
  | 0, k, b, q, _ => by
    have e : decide (p + k ≤ q ∧ q < p + k + 0) = false := decide_eq_false (by omega)
    rw [putRow, e, Bool.false_and, Bool.or_false]
  | d + 1, k, b, q, h => by
    rw [putRow, bit_putRow p x d (k + 1) _ q (by rw [putBit_len]; omega), bit_put (by omega)]
    by_cases e : q = p + k
    · have h1 : ¬ (p + (k + 1) ≤ q ∧ q < p + (k + 1) + d) := by omega
      have h2 : p + k ≤ q ∧ q < p + k + (d + 1) := by omega
      have h3 : q - p = k := by omega
      rw [decide_eq_false h1, decide_eq_true h2, decide_eq_true e, h3, Bool.false_and, Bool.or_false]
    · have h1 : (p + (k + 1) ≤ q ∧ q < p + (k + 1) + d) ↔ (p + k ≤ q ∧ q < p + k + (d + 1)) := by omega
      simp only [e, decide_false, Bool.false_and, Bool.or_false, h1]

theorem put_row {k j0 : Nat} {l : List Int} {len i' : Int} {w i x : Nat} (hx : x < 9223372036854775808) (hw : w ≤ 32) : ∀ (d k0 j : Nat) (b : List Nat), k0 + d = w → d < j → octets b → i * w + w ≤ 8 * b.length → b.length < 100000000000000000 →
    PackPut.l1 C k j j0 (w : Int) (i : Int) (x : Int) l len i' (w : Int) (k0 : Int) (ints b) = PackPut.e1 C k j0 (w : Int) l len i' (ints (putRow b (i * w) x k0 d))
  | 0, k0, j, b, hd, hj, ho, hl, hb => by
    obtain ⟨j, rfl⟩ : ∃ m, j = m + 1 := ⟨j - 1, by omega⟩
    rw [PackPut.l1_eq, cond_dec, if_neg (by omega)]; rfl
  | d + 1, k0, j, b, hd, hj, ho, hl, hb => by
    obtain ⟨j, rfl⟩ : ∃ m, j = m + 1 := ⟨j - 1, by omega⟩
    have hp : (i * w + k0) / 8 < b.length := by omega
    obtain ⟨e1, e2⟩ := at_idx (i := i) (w := w) (k := k0) (by omega)
    have hv : b.getD ((i * w + k0) / 8) 0 < 256 := by
      rw [List.getD_eq_getElem?_getD, List.getElem?_eq_getElem hp]; exact ho _ (List.getElem_mem hp)
    rw [PackPut.l1_eq, cond_dec, if_pos (by omega)]
    simp only [e1, e2]
    rw [if_pos (Int.natCast_nonneg _), if_pos ⟨by rw [ints_len]; omega, trivial⟩, get_nat b hp]
    simp only
    rw [if_neg (by omega), if_neg (by omega), if_pos (Int.natCast_nonneg _), if_pos ⟨by rw [ints_len]; omega, trivial⟩, put_val hv hx (by omega) (Nat.mod_lt _ (by omega)), Int.toNat_natCast, ints_set, succ64 (by omega)]
    exact put_row hx hw d (k0 + 1) j (putBit b (i * w + k0) (x.testBit k0)) (by omega) (by omega) (octets_put ho _ _) (by rw [putBit_len]; omega) (by rw [putBit_len]; omega)

/-- numbers of one width, packed -/
structure Packed (b l : List Nat) (w : Nat) : Prop where
  len : b.length = (l.length * w + 7) / 8
  oct : octets b
  bit : ∀ q, bitAt b q = (decide (q < l.length * w) && (l.getD (q / w) 0).testBit (q % w))
theorem bits_ext {a b : List Nat} (hl : a.length = b.length) (ha : octets a) (hb : octets b) (h : ∀ q, bitAt a q = bitAt b q) : a = b := by
  apply List.ext_getElem hl
  intro i h1 h2
  apply Nat.eq_of_testBit_eq
  intro r
  by_cases hr : r < 8
  · have := h (8 * i + r)
    unfold bitAt at this
    rw [show (8 * i + r) / 8 = i by omega, show (8 * i + r) % 8 = r by omega] at this
    simpa [List.getD_eq_getElem?_getD, List.getElem?_eq_getElem h1, List.getElem?_eq_getElem h2] using this
  · have e1 : a[i].testBit r = false := Nat.testBit_lt_two_pow (Nat.lt_of_lt_of_le (ha _ (List.getElem_mem h1)) (Nat.pow_le_pow_right (n := 2) (i := 8) (by omega) (by omega)))
    have e2 : b[i].testBit r = false := Nat.testBit_lt_two_pow (Nat.lt_of_lt_of_le (hb _ (List.getElem_mem h2)) (Nat.pow_le_pow_right (n := 2) (i := 8) (by omega) (by omega)))
    rw [e1, e2]
theorem Packed.unique {a b l : List Nat} {w : Nat} (ha : Packed a l w) (hb : Packed b l w) : a = b :=
  bits_ext (ha.len.trans hb.len.symm) ha.oct hb.oct (fun q => by rw [ha.bit, hb.bit])

/-- so many of the numbers are packed -/
structure Packing (b l : List Nat) (w i : Nat) : Prop where
  len : b.length = (l.length * w + 7) / 8
  oct : octets b
  bit : ∀ q, bitAt b q = (decide (q < i * w) && (l.getD (q / w) 0).testBit (q % w))
theorem Packing.step {b l : List Nat} {w i : Nat} (h : Packing b l w i) (hi : i < l.length) : Packing (putRow b (i * w) (l.getD i 0) 0 w) l w (i + 1) := by
  have hm : (i + 1) * w ≤ l.length * w := Nat.mul_le_mul_right w hi
  have hs : (i + 1) * w = i * w + w := by rw [Nat.add_mul, Nat.one_mul]
  refine ⟨by rw [putRow_len]; exact h.len, putRow_octets _ _ _ _ _ h.oct, fun q => ?_⟩
  rw [bit_putRow _ _ _ _ _ _ (by rw [h.len]; omega), h.bit]
  by_cases h1 : q < i * w
  · have h2 : ¬ (i * w + 0 ≤ q ∧ q < i * w + 0 + w) := by omega
    have h3 : q < (i + 1) * w := by omega
    rw [decide_eq_true h1, decide_eq_false h2, decide_eq_true h3, Bool.false_and, Bool.or_false]
  · by_cases h3 : q < (i + 1) * w
    · have h2 : i * w + 0 ≤ q ∧ q < i * w + 0 + w := by omega
      have e1 : q / w = i := by
        rw [Nat.div_eq_of_lt_le]
        · omega
        · omega
      have e2 : q % w = q - i * w := by
        have := Nat.div_add_mod q w
        rw [e1, Nat.mul_comm] at this
        omega
      have h2' : i * w ≤ q ∧ q < i * w + w := by omega
      simp [h1, h3, e1, e2, h2']
    · have h2 : ¬ (i * w + 0 ≤ q ∧ q < i * w + 0 + w) := by omega
      rw [decide_eq_false h1, decide_eq_false h2, decide_eq_false h3, Bool.false_and, Bool.false_and, Bool.or_false]

theorem put_rows (h : EqFnP C) {k : Nat} {l : List Nat} {w : Nat} (hk : 40 < k) (hw : w ≤ 32) (hx : ∀ x, x ∈ l → x < 2 ^ w) (hl : l.length < 100000000000000) : ∀ (d i j : Nat) (b : List Nat), i + d = l.length → d < j → Packing b l w i →
    ∃ b', Packed b' l w ∧ PackPut.l0 C k j (w : Int) (ints l) (l.length : Int) (i : Int) (ints b) = some (.tup [.sl true (.ints .u8 (ints b')), .int .i64 0], [])
  | 0, i, j, b, hd, hj, hb => by
    obtain ⟨j, rfl⟩ : ∃ m, j = m + 1 := ⟨j - 1, by omega⟩
    have hi : i = l.length := by omega
    subst hi
    refine ⟨b, ⟨hb.len, hb.oct, hb.bit⟩, ?_⟩
    rw [PackPut.l0_eq, cond_dec, if_neg (by omega), PackPut.e0_eq]
  | d + 1, i, j, b, hd, hj, hb => by
    obtain ⟨j, rfl⟩ : ∃ m, j = m + 1 := ⟨j - 1, by omega⟩
    have hi : i < l.length := by omega
    have hm : l.getD i 0 ∈ l := by rw [List.getD_eq_getElem?_getD, List.getElem?_eq_getElem hi]; exact List.getElem_mem hi
    have hxi := hx _ hm
    have hw2 : 2 ^ w ≤ 2 ^ 32 := Nat.pow_le_pow_right (by omega) hw
    have hmul : l.length * w ≤ l.length * 32 := Nat.mul_le_mul_left _ hw
    have hmi : (i + 1) * w ≤ l.length * w := Nat.mul_le_mul_right w hi
    have hsi : (i + 1) * w = i * w + w := by rw [Nat.add_mul, Nat.one_mul]
    have hlen := hb.len
    have hs : (l.getD i 0) >>> w = 0 := by rw [Nat.shiftRight_eq_div_pow]; exact Nat.div_eq_of_lt hxi
    have e0 : ((l.getD i 0 : Nat) : Int).fdiv (2 ^ (min (w : Int).toNat IntKind.i64.bits)) = 0 := by
      rw [shr_nat (by simp only [IntKind.bits]; omega), hs]; rfl
    obtain ⟨b', h1, h2⟩ := put_rows h hk hw hx hl d (i + 1) j _ (by omega) (by omega) (hb.step hi)
    refine ⟨b', h1, ?_⟩
    rw [PackPut.l0_eq, cond_dec, if_pos (by omega), if_pos (Int.natCast_nonneg _), get_nat l hi]
    simp only
    rw [cond_dec, if_neg (by omega), if_neg (by omega), e0, cond_dec, if_neg (by omega)]
    rw [show (0 : Int) = ((0 : Nat) : Int) from rfl, put_row (by omega) hw w 0 k b (by omega) (by omega) hb.oct (by omega) (by omega), PackPut.e1_eq, succ64 (by omega)]
    exact h2
theorem replicate_ints (n : Nat) : List.replicate n (0 : Int) = ints (List.replicate n 0) := by simp [ints]
theorem PackPut_spec (h : EqFnP C) {k : Nat} {l : List Nat} {w : Nat} (hk : big < k) (hw : w ≤ 32) (hx : ∀ x, x ∈ l → x < 2 ^ w) (hl : l.length ≤ 1000000000) :
    ∃ b, Packed b l w ∧ C k 17 [.sl false (.ints .i64 (ints l)), .int .i64 (w : Int)] = some (.tup [.sl true (.ints .u8 (ints b)), .int .i64 0], []) := by
  unfold big at hk
  obtain ⟨k, rfl⟩ : ∃ m, k = m + 1 := ⟨k - 1, by omega⟩
  have hmul : l.length * w ≤ l.length * 32 := Nat.mul_le_mul_left _ hw
  have zb : ∀ q, bitAt (List.replicate ((l.length * w + 7) / 8) 0) q = false := by
    intro q
    unfold bitAt
    rw [List.getD_eq_getElem?_getD, List.getElem?_replicate]
    split <;> simp
  obtain ⟨b, h1, h2⟩ := put_rows h (k := k) (by omega) hw hx (by omega) l.length 0 k (List.replicate ((l.length * w + 7) / 8) 0) (by omega) (by omega) ⟨by simp, fun x hx => by
    have := List.eq_of_mem_replicate hx; omega, fun q => by rw [zb, Nat.zero_mul, decide_eq_false (by omega), Bool.false_and]⟩
  refine ⟨b, h1, ?_⟩
  rw [h.PackPut, PackPut.f_eq, cond_dec, if_neg (by omega), cond_dec, if_neg (by omega), ints_len, PackSize.s_ok _ _ (PackSize_spec h (by omega) (by omega)), if_pos ⟨Int.natCast_nonneg _, Int.le_refl _, by unfold bound; omega, by omega⟩,
    Int.toNat_natCast, replicate_ints]
  exact h2

theorem get_bits {k j : Nat} {b : List Nat} {w i : Nat} (hw : w ≤ 32) (ho : octets b) (hi : i * w + w < 1000000000000) : ∀ (d k0 j x : Nat), k0 + d = w → d < j → x < 2 ^ k0 →
    ∃ y : Nat, y < 2 ^ w ∧ (∀ r, y.testBit r = (x.testBit r || (decide (k0 ≤ r ∧ r < w) && bitAt b (i * w + r)))) ∧
      PackGet.l0 C k j (ints b) (w : Int) (i : Int) (x : Int) (w : Int) (k0 : Int) = some (.int .i64 (y : Int), [])
  | 0, k0, j, x, hd, hj, hx => by
    obtain ⟨j, rfl⟩ : ∃ m, j = m + 1 := ⟨j - 1, by omega⟩
    have : k0 = w := by omega
    subst this
    refine ⟨x, hx, fun r => by rw [decide_eq_false (by omega), Bool.false_and, Bool.or_false], ?_⟩
    rw [PackGet.l0_eq, cond_dec, if_neg (by omega), PackGet.e1_eq]
  | d + 1, k0, j, x, hd, hj, hx => by
    obtain ⟨j, rfl⟩ : ∃ m, j = m + 1 := ⟨j - 1, by omega⟩
    obtain ⟨e1, e2⟩ := at_idx (i := i) (w := w) (k := k0) (by omega)
    have h32 : 2 ^ k0 ≤ 2 ^ 31 := Nat.pow_le_pow_right (by omega) (by omega)
    have hx1 : x < 2 ^ (k0 + 1) := Nat.lt_of_lt_of_le hx (Nat.pow_le_pow_right (by omega) (by omega))
    rw [PackGet.l0_eq, cond_dec, if_pos (by omega)]
    simp only [e1, e2]
    rw [cond_dec, ints_len]
    by_cases hp : (i * w + k0) / 8 < b.length
    · have hv : b.getD ((i * w + k0) / 8) 0 < 256 := by
        rw [List.getD_eq_getElem?_getD, List.getElem?_eq_getElem hp]; exact ho _ (List.getElem_mem hp)
      have e3 : IntKind.i64.wrap (IntKind.i64.wrap (IntKind.u8.wrap ((BitVec.ofInt IntKind.u8.bits (((b.getD ((i * w + k0) / 8) 0 : Nat) : Int).fdiv (2 ^ (min ((((i * w + k0) % 8 : Nat) : Int)).toNat IntKind.u8.bits))) &&& BitVec.ofInt IntKind.u8.bits 1).toNat)) * 2 ^ (min (k0 : Int).toNat IntKind.i64.bits)) = (((bitAt b (i * w + k0)).toNat <<< k0 : Nat) : Int) := by
        have hr : (i * w + k0) % 8 < 8 := Nat.mod_lt _ (by omega)
        have h2 : (bitAt b (i * w + k0)).toNat ≤ 1 := by cases bitAt b (i * w + k0) <;> simp
        have h3 : (b.getD ((i * w + k0) / 8) 0) >>> ((i * w + k0) % 8) ≤ b.getD ((i * w + k0) / 8) 0 := by rw [Nat.shiftRight_eq_div_pow]; exact Nat.div_le_self _ _
        have h4 := Nat.mul_le_mul h2 h32
        have h5 : (bitAt b (i * w + k0)).toNat <<< k0 ≤ 1 * 2 ^ 31 := by rw [Nat.shiftLeft_eq]; exact h4
        rw [shr_nat (by simp only [IntKind.bits]; omega)]
        have e4 := and8 (a := (b.getD ((i * w + k0) / 8) 0) >>> ((i * w + k0) % 8)) (b := 1) (by omega) (by omega)
        rw [shr_and_one] at e4
        have e5 : IntKind.u8.wrap ((BitVec.ofInt IntKind.u8.bits (((b.getD ((i * w + k0) / 8) 0) >>> ((i * w + k0) % 8) : Nat) : Int) &&& BitVec.ofInt IntKind.u8.bits 1).toNat) = (((bitAt b (i * w + k0)).toNat : Nat) : Int) := e4
        rw [e5, w64 (x := (((bitAt b (i * w + k0)).toNat : Nat) : Int)) (by omega) (by omega), shl_nat (by simp only [IntKind.bits]; omega), w64 (by omega) (by omega)]
      have h2 : (bitAt b (i * w + k0)).toNat ≤ 1 := by cases bitAt b (i * w + k0) <;> simp
      have h5 : (bitAt b (i * w + k0)).toNat <<< k0 < 2 ^ (k0 + 1) := by
        rw [Nat.shiftLeft_eq, Nat.pow_succ]
        have := Nat.mul_le_mul_right (2 ^ k0) h2
        have hpos : 0 < 2 ^ k0 := Nat.pow_pos (by omega)
        omega
      have h6 : 2 ^ (k0 + 1) ≤ 2 ^ 32 := Nat.pow_le_pow_right (by omega) (by omega)
      obtain ⟨y, y1, y2, y3⟩ := get_bits (k := k) (j := j) hw ho hi d (k0 + 1) j (x ||| (bitAt b (i * w + k0)).toNat <<< k0) (by omega) (by omega) (Nat.or_lt_two_pow hx1 h5)
      refine ⟨y, y1, fun r => ?_, ?_⟩
      · rw [y2, or_bit]
        by_cases hr : r = k0
        · subst hr
          rw [decide_eq_true rfl, decide_eq_false (show ¬ (r + 1 ≤ r ∧ r < w) by omega), decide_eq_true (show r ≤ r ∧ r < w by omega), Bool.false_and, Bool.or_false]
        · rw [decide_eq_false hr, Bool.false_and, Bool.or_false]
          congr 2
          rw [decide_eq_decide]; omega
      · rw [if_pos (by omega), if_pos (Int.natCast_nonneg _), get_nat b hp]
        simp only
        rw [if_neg (by omega), if_neg (by omega), PackGet.e0_eq, e3, or64 (by omega) (by omega), succ64 (by omega)]
        exact y3
    · obtain ⟨y, y1, y2, y3⟩ := get_bits (k := k) (j := j) hw ho hi d (k0 + 1) j x (by omega) (by omega) hx1
      have hb0 : bitAt b (i * w + k0) = false := by
        unfold bitAt
        rw [List.getD_eq_getElem?_getD, List.getElem?_eq_none (by omega)]; simp
      refine ⟨y, y1, fun r => ?_, ?_⟩
      · rw [y2]
        congr 1
        by_cases hr : r = k0
        · subst hr
          rw [hb0, Bool.and_false, Bool.and_false]
        · congr 1
          rw [decide_eq_decide]; omega
      · rw [if_neg (by omega), PackGet.e0_eq, succ64 (by omega)]
        exact y3
/-- what Get gives of packed bytes -/
theorem PackGet_spec (h : EqFnP C) {k : Nat} {b l : List Nat} {w i : Nat} (hk : big < k) (hw : w ≤ 32) (hb : Packed b l w) (hi : i < l.length) (hl : l.length ≤ 1000000000) (hx : ∀ x, x ∈ l → x < 2 ^ w) :
    C k 19 [.sl false (.ints .u8 (ints b)), .int .i64 (w : Int), .int .i64 (i : Int)] = some (.int .i64 ((l.getD i 0 : Nat) : Int), []) := by
  unfold big at hk
  obtain ⟨k, rfl⟩ : ∃ m, k = m + 1 := ⟨k - 1, by omega⟩
  have hmul : l.length * w ≤ l.length * 32 := Nat.mul_le_mul_left _ hw
  have hmi : (i + 1) * w ≤ l.length * w := Nat.mul_le_mul_right w hi
  have hsi : (i + 1) * w = i * w + w := by rw [Nat.add_mul, Nat.one_mul]
  obtain ⟨y, y1, y2, y3⟩ := get_bits (C := C) (k := k) (j := k) (b := b) hw hb.oct (i := i) (by omega) w 0 k 0 (by omega) (by omega) (by simp)
  have hm : l.getD i 0 ∈ l := by rw [List.getD_eq_getElem?_getD, List.getElem?_eq_getElem hi]; exact List.getElem_mem hi
  have hy : y = l.getD i 0 := by
    apply Nat.eq_of_testBit_eq
    intro r
    rw [y2, Nat.zero_testBit, Bool.false_or]
    by_cases hr : r < w
    · rw [decide_eq_true (by omega), Bool.true_and, hb.bit, decide_eq_true (by omega), Bool.true_and]
      have e1 : (i * w + r) / w = i := by
        rw [Nat.mul_comm, Nat.mul_add_div (by omega), Nat.div_eq_of_lt hr, Nat.add_zero]
      have e2 : (i * w + r) % w = r := by
        rw [Nat.mul_comm, Nat.mul_add_mod, Nat.mod_eq_of_lt hr]
      rw [e1, e2]
    · rw [decide_eq_false (by omega), Bool.false_and]
      exact (Nat.testBit_lt_two_pow (Nat.lt_of_lt_of_le (hx _ hm) (Nat.pow_le_pow_right (by omega) (by omega)))).symm
  rw [h.PackGet, PackGet.f_eq, ← hy]
  exact y3
end Go.Proofs.Ytfkkigbbejhfbaa
