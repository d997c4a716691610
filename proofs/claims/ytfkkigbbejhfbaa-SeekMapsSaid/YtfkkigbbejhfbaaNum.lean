/- Numbers as the printed equations have them: wraps that do nothing, shifts and bits as those of natural numbers. -/
import Derived.Test.YtfkkigbbejhfbaaSee
namespace Go.Proofs.Ytfkkigbbejhfbaa
open Go Idl

theorem w64 {x : Int} (h1 : -9223372036854775808 ≤ x) (h2 : x < 9223372036854775808) : IntKind.i64.wrap x = x := by
  simp [IntKind.wrap, IntKind.bits, IntKind.signed]; omega
theorem wu8 {x : Int} (h1 : 0 ≤ x) (h2 : x < 256) : IntKind.u8.wrap x = x := by
  simp [IntKind.wrap, IntKind.bits, IntKind.signed]; omega
theorem wu16 {x : Int} (h1 : 0 ≤ x) (h2 : x < 65536) : IntKind.u16.wrap x = x := by
  simp [IntKind.wrap, IntKind.bits, IntKind.signed]; omega
theorem wu32 {x : Int} (h1 : 0 ≤ x) (h2 : x < 4294967296) : IntKind.u32.wrap x = x := by
  simp [IntKind.wrap, IntKind.bits, IntKind.signed]; omega
theorem wu64 {x : Int} (h1 : 0 ≤ x) (h2 : x < 18446744073709551616) : IntKind.u64.wrap x = x := by
  simp [IntKind.wrap, IntKind.bits, IntKind.signed]; omega
theorem wu8_mod (x : Int) : IntKind.u8.wrap x = x % 256 := by simp [IntKind.wrap, IntKind.bits, IntKind.signed]
theorem tdiv_nat (a b : Nat) : (a : Int).tdiv (b : Int) = ((a / b : Nat) : Int) := rfl
theorem tmod_nat (a b : Nat) : (a : Int).tmod (b : Int) = ((a % b : Nat) : Int) := rfl
theorem tdiv_pos {a b : Int} (ha : 0 ≤ a) : a.tdiv b = a / b := Int.tdiv_eq_ediv_of_nonneg ha
theorem tmod_pos {a b : Int} (ha : 0 ≤ a) : a.tmod b = a % b := Int.tmod_eq_emod_of_nonneg ha

theorem bv_nat {n a : Nat} (h : a < 2 ^ n) : (BitVec.ofInt n (a : Int)).toNat = a := by
  rw [BitVec.ofInt_natCast, BitVec.toNat_ofNat, Nat.mod_eq_of_lt h]
theorem or64 {a b : Nat} (ha : a < 9223372036854775808) (hb : b < 9223372036854775808) : IntKind.i64.wrap ((BitVec.ofInt IntKind.i64.bits (a : Int) ||| BitVec.ofInt IntKind.i64.bits (b : Int)).toNat : Int) = ((a ||| b : Nat) : Int) := by
  rw [BitVec.toNat_or, bv_nat (by simp only [IntKind.bits]; omega), bv_nat (by simp only [IntKind.bits]; omega)]
  have h : a ||| b < 2 ^ 63 := Nat.or_lt_two_pow (by omega) (by omega)
  exact w64 (by omega) (by omega)
theorem and64 {a b : Nat} (ha : a < 9223372036854775808) (hb : b < 9223372036854775808) : IntKind.i64.wrap ((BitVec.ofInt IntKind.i64.bits (a : Int) &&& BitVec.ofInt IntKind.i64.bits (b : Int)).toNat : Int) = ((a &&& b : Nat) : Int) := by
  rw [BitVec.toNat_and, bv_nat (by simp only [IntKind.bits]; omega), bv_nat (by simp only [IntKind.bits]; omega)]
  have h : a &&& b ≤ a := Nat.and_le_left
  exact w64 (by omega) (by omega)
theorem or8 {a b : Nat} (ha : a < 256) (hb : b < 256) : IntKind.u8.wrap ((BitVec.ofInt IntKind.u8.bits (a : Int) ||| BitVec.ofInt IntKind.u8.bits (b : Int)).toNat : Int) = ((a ||| b : Nat) : Int) := by
  rw [BitVec.toNat_or, bv_nat (by simp only [IntKind.bits]; omega), bv_nat (by simp only [IntKind.bits]; omega)]
  have h : a ||| b < 2 ^ 8 := Nat.or_lt_two_pow (by omega) (by omega)
  exact wu8 (by omega) (by omega)
theorem and8 {a b : Nat} (ha : a < 256) (hb : b < 256) : IntKind.u8.wrap ((BitVec.ofInt IntKind.u8.bits (a : Int) &&& BitVec.ofInt IntKind.u8.bits (b : Int)).toNat : Int) = ((a &&& b : Nat) : Int) := by
  rw [BitVec.toNat_and, bv_nat (by simp only [IntKind.bits]; omega), bv_nat (by simp only [IntKind.bits]; omega)]
  have h : a &&& b ≤ a := Nat.and_le_left
  exact wu8 (by omega) (by omega)
theorem shr_nat {a k n : Nat} (hk : k ≤ n) : (a : Int).fdiv (2 ^ (min (k : Int).toNat n)) = ((a >>> k : Nat) : Int) := by
  rw [Int.toNat_natCast, Nat.min_eq_left hk, Nat.shiftRight_eq_div_pow, Int.fdiv_eq_ediv_of_nonneg _ (Int.pow_nonneg (by omega))]
  norm_cast
theorem shl_nat {a k n : Nat} (hk : k ≤ n) : (a : Int) * 2 ^ (min (k : Int).toNat n) = ((a <<< k : Nat) : Int) := by
  rw [Int.toNat_natCast, Nat.min_eq_left hk, Nat.shiftLeft_eq]
  norm_cast
theorem cond_dec {α : Type} (p : Prop) [Decidable p] (x y : α) : cond (decide p) x y = if p then x else y := by
  by_cases h : p <;> simp [h]
theorem cond_beq {α : Type} (a b : Int) (x y : α) : cond (a == b) x y = if a = b then x else y := by
  by_cases h : a = b
  · simp [h]
  · have e : (a == b) = false := by simpa using h
    rw [e, if_neg h]; rfl
theorem cond_bne {α : Type} (a b : Int) (x y : α) : cond (a != b) x y = if a = b then y else x := by
  by_cases h : a = b
  · simp [h]
  · have e : (a != b) = true := by simpa using h
    rw [e, if_neg h]; rfl
theorem w64n {n : Nat} (h : n < 9223372036854775808) : IntKind.i64.wrap (n : Int) = (n : Int) := w64 (Int.le_trans (by decide) (Int.natCast_nonneg n)) (Int.ofNat_lt.2 h)
theorem wu8n {n : Nat} (h : n < 256) : IntKind.u8.wrap (n : Int) = (n : Int) := wu8 (Int.natCast_nonneg n) (Int.ofNat_lt.2 h)
theorem natS (n : Nat) : (n : Int) + 1 = ((n + 1 : Nat) : Int) := by omega
theorem natP {n : Nat} (h : 0 < n) : (n : Int) - 1 = ((n - 1 : Nat) : Int) := by omega
/-- rounds and depth enough for whatever comes -/
def big : Nat := 70000000000

/-! ### bits in bytes -/
def bitAt (b : List Nat) (p : Nat) : Bool := (b.getD (p / 8) 0).testBit (p % 8)
def ints (l : List Nat) : List Int := l.map Int.ofNat
theorem ints_len (l : List Nat) : (ints l).length = l.length := by simp [ints]
theorem ints_get (l : List Nat) (i : Nat) : (ints l)[i]? = (l[i]?).map Int.ofNat := by simp [ints]
theorem ints_set (l : List Nat) (i n : Nat) : (ints l).set i (n : Int) = ints (l.set i n) := by unfold ints; rw [List.map_set]; rfl
theorem ints_append (a b : List Nat) : ints a ++ ints b = ints (a ++ b) := by simp [ints]
theorem ints_inj {a b : List Nat} (h : ints a = ints b) : a = b := by
  have := congrArg (List.map Int.toNat) h
  simpa [ints, Function.comp_def] using this
theorem ints_toNat {l : List Int} (h : ∀ x, x ∈ l → 0 ≤ x) : ints (l.map Int.toNat) = l := by
  unfold ints
  rw [List.map_map]
  conv => rhs; rw [← List.map_id l]
  exact List.map_congr_left (fun x hx => by have := h x hx; simp; omega)
def octets (b : List Nat) : Prop := ∀ x, x ∈ b → x < 256
theorem bit_set {b : List Nat} {p : Nat} (hp : p / 8 < b.length) (v : Nat) (q : Nat) :
    bitAt (b.set (p / 8) v) q = if q / 8 = p / 8 then v.testBit (q % 8) else bitAt b q := by
  unfold bitAt
  simp only [List.getD_eq_getElem?_getD]
  by_cases h : q / 8 = p / 8
  · rw [if_pos h, h, List.getElem?_set_self (by omega)]; rfl
  · rw [if_neg h, List.getElem?_set_ne (by omega)]
theorem or_bit (x : Nat) (c : Bool) (r s : Nat) : (x ||| (c.toNat <<< r)).testBit s = (x.testBit s || (decide (s = r) && c)) := by
  rw [Nat.testBit_or, Nat.testBit_shiftLeft]
  congr 1
  by_cases h : s = r
  · subst h; cases c <;> simp
  · by_cases h2 : r ≤ s
    · have : s - r ≠ 0 := by omega
      have e1 : Nat.testBit 1 (s - r) = false := by
        cases e : s - r with
        | zero => exact absurd e this
        | succ n => simp [Nat.testBit_succ]
      cases c <;> simp [h, h2, e1]
    · simp [h, h2]
theorem shr_and_one (x k : Nat) : (x >>> k) &&& 1 = (x.testBit k).toNat := by
  rw [Nat.testBit, Nat.and_comm, Nat.one_and_eq_mod_two]
  have : x >>> k % 2 < 2 := Nat.mod_lt _ (by omega)
  rcases (show x >>> k % 2 = 0 ∨ x >>> k % 2 = 1 by omega) with h | h <;> simp [h]
/-- the bytes with one bit more -/
def putBit (b : List Nat) (p : Nat) (c : Bool) : List Nat := b.set (p / 8) (b.getD (p / 8) 0 ||| (c.toNat <<< (p % 8)))
theorem putBit_len (b : List Nat) (p : Nat) (c : Bool) : (putBit b p c).length = b.length := by simp [putBit]
theorem bit_put {b : List Nat} {p : Nat} (hp : p / 8 < b.length) (c : Bool) (q : Nat) : bitAt (putBit b p c) q = (bitAt b q || (decide (q = p) && c)) := by
  unfold putBit
  rw [bit_set hp]
  by_cases h : q / 8 = p / 8
  · rw [if_pos h, or_bit]
    unfold bitAt
    rw [h]
    congr 2
    rw [decide_eq_decide]; omega
  · rw [if_neg h]
    have : ¬ q = p := by intro e; exact h (by rw [e])
    simp [this]
theorem octets_put {b : List Nat} (h : octets b) (p : Nat) (c : Bool) : octets (putBit b p c) := by
  intro x hx
  rcases List.mem_or_eq_of_mem_set hx with hx | rfl
  · exact h x hx
  · have h1 : b.getD (p / 8) 0 < 2 ^ 8 := by
      rw [List.getD_eq_getElem?_getD]
      cases e : b[p / 8]? with
      | none => simp
      | some y => exact h y (List.mem_of_getElem? e)
    have h2 : c.toNat <<< (p % 8) < 2 ^ 8 := by
      have : p % 8 < 8 := Nat.mod_lt _ (by omega)
      rw [Nat.shiftLeft_eq]
      have h3 : 2 ^ (p % 8) ≤ 2 ^ 7 := Nat.pow_le_pow_right (by omega) (by omega)
      cases c <;> simp <;> omega
    exact Nat.or_lt_two_pow h1 h2
end Go.Proofs.Ytfkkigbbejhfbaa
