/- Cursors: numbers of whatever length, and bytes taken, as functions of what lies ahead. -/
import Derived.Test.YtfkkigbbejhfbaaSpP1
namespace Go.Proofs.Ytfkkigbbejhfbaa
open Go Idl
set_option linter.unusedSimpArgs false
set_option linter.unusedVariables false
set_option maxRecDepth 100000
variable {C : Nat → CallF}

/-- what was proved by hand of a copy -/
structure EqH (C : Nat → CallF) : Prop where
  cloneB : ∀ (k : Nat) (l : List Int), l.length ≤ bound → C (k + 1) 62 [.sl false (.ints .u8 l)] = some (.sl true (.ints .u8 l), [])
  cloneS : ∀ (k : Nat) (l : List ByteArray), l.length ≤ bound → C (k + 1) 76 [.sl false (.strs l)] = some (.sl true (.strs l), [])
  growB : ∀ (k : Nat) (n : Int), 0 ≤ n → n ≤ bound → C (k + 1) 94 [.nils, .int .i64 n] = some (.sl true (.ints .u8 []), [])

/-- a number's bytes -/
def vput (n : Nat) : List Nat := if h : n < 128 then [n] else (n % 128 + 128) :: vput (n / 128)
termination_by n
decreasing_by omega
theorem vput_small {n : Nat} (h : n < 128) : vput n = [n] := by rw [vput, dif_pos h]
theorem vput_great {n : Nat} (h : ¬ n < 128) : vput n = (n % 128 + 128) :: vput (n / 128) := by rw [vput, dif_neg h]
theorem vput_octets : ∀ (d n : Nat), n < 128 ^ (d + 1) → octets (vput n)
  | 0, n, h => by
    rw [vput_small (by omega)]
    intro x hx; simp at hx; omega
  | d + 1, n, h => by
    by_cases hs : n < 128
    · rw [vput_small hs]; intro x hx; simp at hx; omega
    · rw [vput_great hs]
      intro x hx
      rcases List.mem_cons.1 hx with rfl | hx
      · omega
      · exact vput_octets d (n / 128) (Nat.div_lt_of_lt_mul (by rw [Nat.pow_succ] at h; omega)) x hx
theorem vput_len : ∀ (d n : Nat), n < 128 ^ (d + 1) → (vput n).length ≤ d + 1 ∧ 0 < (vput n).length
  | 0, n, h => by rw [vput_small (by omega)]; simp
  | d + 1, n, h => by
    by_cases hs : n < 128
    · rw [vput_small hs]; simp
    · rw [vput_great hs]
      have := vput_len d (n / 128) (Nat.div_lt_of_lt_mul (by rw [Nat.pow_succ] at h; omega))
      simp; omega
theorem or128 {m : Nat} (h : m < 256) : m ||| 128 = m % 128 + 128 := by
  have : ∀ m : Fin 256, (m.val ||| 128) = m.val % 128 + 128 := by decide
  exact this ⟨m, h⟩
theorem put_num (k : Nat) : ∀ (d n j : Nat) (acc : List Nat), n < 128 ^ (d + 1) → n < 9223372036854775808 → d < j → acc.length + d < 1000 →
    CurPut.l0 C k j (n : Int) (ints acc) = some (.sl true (.ints .u8 (ints (acc ++ vput n))), []) := by
  have last : ∀ (n j : Nat) (acc : List Nat), n < 128 → 0 < j → acc.length < 1000 → CurPut.l0 C k j (n : Int) (ints acc) = some (.sl true (.ints .u8 (ints (acc ++ vput n))), []) := by
    intro n j acc hn hj ha
    obtain ⟨j, rfl⟩ : ∃ m, j = m + 1 := ⟨j - 1, by omega⟩
    rw [CurPut.l0_eq, cond_dec, if_neg (by omega), CurPut.e0_eq, wu8 (by omega) (by omega), vput_small hn, if_pos ⟨by simp [ints]; unfold bound; omega, rfl⟩]
    simp [ints]
  intro d
  induction d with
  | zero => intro n j acc h1 h2 h3 h4; exact last n j acc (by omega) (by omega) (by omega)
  | succ d ih =>
    intro n j acc h1 h2 h3 h4
    by_cases hs : n < 128
    · exact last n j acc hs (by omega) (by omega)
    · obtain ⟨j, rfl⟩ : ∃ m, j = m + 1 := ⟨j - 1, by omega⟩
      have e1 : IntKind.u8.wrap ((BitVec.ofInt IntKind.u8.bits (IntKind.u8.wrap (n : Int)) ||| BitVec.ofInt IntKind.u8.bits 128).toNat) = ((n % 128 + 128 : Nat) : Int) := by
        have e2 : IntKind.u8.wrap (n : Int) = ((n % 256 : Nat) : Int) := by rw [wu8_mod]; omega
        rw [e2]
        have := or8 (a := n % 256) (b := 128) (by omega) (by omega)
        rw [or128 (by omega), show n % 256 % 128 = n % 128 by omega] at this
        exact this
      have e3 : (n : Int).fdiv (2 ^ (min (7 : Int).toNat IntKind.i64.bits)) = ((n / 128 : Nat) : Int) := by
        have := shr_nat (a := n) (k := 7) (n := IntKind.i64.bits) (by simp only [IntKind.bits]; omega)
        rw [Nat.shiftRight_eq_div_pow] at this
        exact this
      rw [CurPut.l0_eq, cond_dec, if_pos (by omega), e1, e3, if_pos ⟨by simp [ints]; unfold bound; omega, rfl⟩]
      have e4 : ints acc ++ [((n % 128 + 128 : Nat) : Int)] = ints (acc ++ [n % 128 + 128]) := by simp [ints]
      rw [e4, ih (n / 128) j (acc ++ [n % 128 + 128]) (Nat.div_lt_of_lt_mul (by rw [Nat.pow_succ] at h1; omega)) (by omega) (by omega) (by simp; omega), vput_great hs]
      simp
theorem CurPut_spec (h : EqFnP C) {k : Nat} (hk : big < k) {n : Nat} (hn : n < 9223372036854775808) : C k 61 [.int .i64 (n : Int)] = some (.sl true (.ints .u8 (ints (vput n))), []) := by
  unfold big at hk
  obtain ⟨k, rfl⟩ : ∃ m, k = m + 1 := ⟨k - 1, by omega⟩
  rw [h.CurPut, CurPut.f_eq, cond_dec, if_neg (by omega)]
  exact put_num k 8 n k [] (by omega) hn (by omega) (by simp)

/-- a number read: what it is, and how many bytes; or which error -/
def vnum : List Nat → Nat → Nat → Except Nat (Nat × Nat)
  | [], _, _ => .error 2
  | c :: r, i, x =>
    if i = 9 then .error 3 else
    if c < 128 then (if c = 0 ∧ 0 < i then .error 3 else .ok (x ||| ((c % 128) <<< (7 * i)), i + 1))
    else vnum r (i + 1) (x ||| ((c % 128) <<< (7 * i)))
/-- a cursor's state behind a try to read a number -/
def numEnd (a : Nat) : Except Nat (Nat × Nat) → Nat × Nat × Nat
  | .ok (n, m) => (n, a + m, 0)
  | .error e => (0, a, e)
theorem CurFail_spec (h : EqFnP C) {k : Nat} (hk : 0 < k) (b : List Int) (a e m : Int) :
    C k 65 [.pt [.sl false (.ints .u8 b), .int .i64 a, .int .i64 e], .int .i64 m] = some (.tup [], [.pt [.sl false (.ints .u8 b), .int .i64 a, .int .i64 (if e = 0 then m else e)]]) := by
  obtain ⟨k, rfl⟩ : ∃ m, k = m + 1 := ⟨k - 1, by omega⟩
  rw [h.CurFail, CurFail.f_eq, cond_beq]
  split <;> rfl
theorem and127 {m : Nat} (h : m < 256) : m &&& 127 = m % 128 := by
  have : ∀ m : Fin 256, (m.val &&& 127) = m.val % 128 := by decide
  exact this ⟨m, h⟩
def numRes (b : List Nat) (r : Nat × Nat × Nat) : Option (V × List V) :=
  some (.int .i64 (r.1 : Int), [.pt [.sl false (.ints .u8 (ints b)), .int .i64 (r.2.1 : Int), .int .i64 (r.2.2 : Int)]])
theorem number_loop (h : EqFnP C) {k : Nat} (hk : 0 < k) {b rest : List Nat} {a : Nat} (ho : octets rest) (ha : a + rest.length ≤ 1000000000000) : ∀ (d i j x : Nat), i + d = rest.length → d < j → i ≤ 9 → x < 2 ^ (7 * i) →
    CurNumber.l0 C k j (x : Int) (ints rest) (rest.length : Int) (i : Int) (ints b) (a : Int) 0 = numRes b (numEnd a (vnum (rest.drop i) i x))
  | 0, i, j, x, hd, hj, hi, hx => by
    obtain ⟨j, rfl⟩ : ∃ m, j = m + 1 := ⟨j - 1, by omega⟩
    rw [CurNumber.l0_eq, cond_dec, if_neg (by omega), CurNumber.e0_eq, CurFail.q_ok _ _ _ _ (CurFail_spec h hk ..), List.drop_of_length_le (by omega)]
    rfl
  | d + 1, i, j, x, hd, hj, hi, hx => by
    obtain ⟨j, rfl⟩ : ∃ m, j = m + 1 := ⟨j - 1, by omega⟩
    have hlt : i < rest.length := by omega
    have hc : rest.getD i 0 < 256 := by rw [List.getD_eq_getElem?_getD, List.getElem?_eq_getElem hlt]; exact ho _ (List.getElem_mem hlt)
    have hdrop : rest.drop i = rest.getD i 0 :: rest.drop (i + 1) := by
      rw [List.getD_eq_getElem?_getD, List.getElem?_eq_getElem hlt]; exact List.drop_eq_getElem_cons hlt
    generalize hcc : rest.getD i 0 = c at *
    rw [CurNumber.l0_eq, cond_dec, if_pos (by omega), if_pos (Int.natCast_nonneg _), get_nat rest hlt, hdrop, hcc]
    simp only
    rw [cond_beq]
    by_cases h9 : i = 9
    · subst h9
      rw [if_pos (by rfl), CurFail.q_ok _ _ _ _ (CurFail_spec h hk ..)]
      simp [vnum, numEnd, numRes]
    · have hi8 : 7 * i ≤ 56 := by omega
      have e7 : IntKind.i64.wrap (7 * (i : Int)) = ((7 * i : Nat) : Int) := by rw [w64 (by omega) (by omega)]; omega
      have hsh : (c % 128) <<< (7 * i) < 2 ^ (7 * (i + 1)) := by
        rw [Nat.shiftLeft_eq, show 7 * (i + 1) = 7 + 7 * i by omega, Nat.pow_add]
        exact Nat.mul_lt_mul_of_pos_right (Nat.mod_lt _ (by omega)) (Nat.pow_pos (by omega))
      have hle : 2 ^ (7 * (i + 1)) ≤ 2 ^ 63 := Nat.pow_le_pow_right (by omega) (by omega)
      have hx' : x < 2 ^ (7 * (i + 1)) := Nat.lt_of_lt_of_le hx (Nat.pow_le_pow_right (by omega) (by omega))
      have e127 : IntKind.i64.wrap (IntKind.u8.wrap ((BitVec.ofInt IntKind.u8.bits ((c : Nat) : Int) &&& BitVec.ofInt IntKind.u8.bits 127).toNat)) = ((c % 128 : Nat) : Int) := by
        have := and8 (a := c) (b := 127) hc (by omega)
        rw [and127 hc] at this
        rw [show ((127 : Nat) : Int) = 127 from rfl] at this
        rw [this, w64 (by omega) (by omega)]
      have eor : IntKind.i64.wrap ((BitVec.ofInt IntKind.i64.bits (x : Int) ||| BitVec.ofInt IntKind.i64.bits (IntKind.i64.wrap ((IntKind.i64.wrap (IntKind.u8.wrap ((BitVec.ofInt IntKind.u8.bits ((c : Nat) : Int) &&& BitVec.ofInt IntKind.u8.bits 127).toNat))) * 2 ^ (min (IntKind.i64.wrap (7 * (i : Int))).toNat IntKind.i64.bits)))).toNat) = ((x ||| ((c % 128) <<< (7 * i)) : Nat) : Int) := by
        rw [e127, e7, shl_nat (by simp only [IntKind.bits]; omega), w64 (x := (((c % 128) <<< (7 * i) : Nat) : Int)) (Int.natCast_nonneg _) (by omega)]
        exact or64 (by omega) (by omega)
      rw [if_neg (by omega), if_neg (by omega), cond_dec, eor]
      by_cases hs : c < 128
      · rw [if_pos (by omega), cond_beq]
        have es : IntKind.i64.wrap ((a : Int) + (IntKind.i64.wrap ((i : Int) + 1))) = ((a + (i + 1) : Nat) : Int) := by
          rw [succ64 (by omega), w64 (by omega) (by omega)]; omega
        by_cases hz : c = 0
        · rw [if_pos (by omega), cond_dec]
          by_cases hi0 : 0 < i
          · rw [if_pos (by omega), CurFail.q_ok _ _ _ _ (CurFail_spec h hk ..)]
            simp [vnum, h9, hz, hi0, numEnd, numRes]
          · rw [if_neg (by omega), es]
            simp [vnum, h9, hz, hi0, numEnd, numRes]
        · rw [if_neg (by omega), es]
          simp [vnum, h9, hs, hz, numEnd, numRes]
      · rw [if_neg (by omega), succ64 (by omega)]
        rw [number_loop h hk ho ha d (i + 1) j _ (by omega) (by omega) (by omega) (Nat.or_lt_two_pow hx' hsh)]
        simp [vnum, h9, hs]
/-- a cursor: bytes, a place, an error -/
def cNumber (b : List Nat) (a e : Nat) : Nat × Nat × Nat := if e = 0 then numEnd a (vnum (b.drop a) 0 0) else (0, a, e)
theorem ints_take (l : List Nat) (n : Nat) : (ints l).take n = ints (l.take n) := by simp [ints, List.map_take]
theorem ints_drop (l : List Nat) (n : Nat) : (ints l).drop n = ints (l.drop n) := by simp [ints, List.map_drop]
theorem CurNumber_spec (h : EqFnP C) {k : Nat} (hk : big < k) {b : List Nat} {a e : Nat} (ho : octets b) (ha : a ≤ b.length) (hb : b.length ≤ 1000000000) :
    C k 95 [.pt [.sl false (.ints .u8 (ints b)), .int .i64 (a : Int), .int .i64 (e : Int)]] = numRes b (cNumber b a e) := by
  unfold big at hk
  obtain ⟨k, rfl⟩ : ∃ m, k = m + 1 := ⟨k - 1, by omega⟩
  rw [h.CurNumber, CurNumber.f_eq, cond_bne]
  unfold cNumber
  by_cases he : e = 0
  · subst he
    rw [if_pos (by rfl), if_pos rfl, ints_len, if_pos ⟨Int.natCast_nonneg _, by omega, Int.le_refl _, rfl, rfl⟩, Int.toNat_natCast, Int.toNat_natCast, ints_take, List.take_length, ints_drop, ints_len]
    have := number_loop h (k := k) (by omega) (b := b) (rest := b.drop a) (a := a) (fun x hx => ho x (List.mem_of_mem_drop hx)) (by simp; omega) (b.drop a).length 0 k 0 (by omega) (by simp; omega) (by omega) (by simp)
    exact this
  · rw [if_neg (by omega), if_neg he]; rfl
end Go.Proofs.Ytfkkigbbejhfbaa
