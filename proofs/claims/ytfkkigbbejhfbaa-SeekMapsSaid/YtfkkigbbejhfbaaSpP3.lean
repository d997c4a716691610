/- Cursors' functions as functions of their states; widths; copies put together. -/
import Derived.Test.YtfkkigbbejhfbaaSpP2
namespace Go.Proofs.Ytfkkigbbejhfbaa
open Go Idl
set_option linter.unusedSimpArgs false
set_option linter.unusedVariables false
set_option maxRecDepth 100000
variable {C : Nat → CallF}

/-! ### cursors -/
theorem CurLeft_spec (h : EqFnP C) {k : Nat} (hk : 0 < k) {b : List Int} {a : Nat} {e : Int} (ha : a ≤ b.length) (hb : b.length ≤ 1000000000) :
    C k 34 [.pt [.sl false (.ints .u8 b), .int .i64 (a : Int), .int .i64 e]] = some (.int .i64 ((b.length - a : Nat) : Int), [.pt [.sl false (.ints .u8 b), .int .i64 (a : Int), .int .i64 e]]) := by
  obtain ⟨k, rfl⟩ : ∃ m, k = m + 1 := ⟨k - 1, by omega⟩
  rw [h.CurLeft, CurLeft.f_eq, w64 (by omega) (by omega)]
  have e : (b.length : Int) - (a : Int) = ((b.length - a : Nat) : Int) := by omega
  rw [e]
theorem CurGood_spec (h : EqFnP C) {k : Nat} (hk : 0 < k) (b : List Int) (a e : Int) :
    C k 31 [.pt [.sl false (.ints .u8 b), .int .i64 a, .int .i64 e]] = some (.bool (e == 0), [.pt [.sl false (.ints .u8 b), .int .i64 a, .int .i64 e]]) := by
  obtain ⟨k, rfl⟩ : ∃ m, k = m + 1 := ⟨k - 1, by omega⟩
  rw [h.CurGood, CurGood.f_eq]
/-- Bytes: what is taken, and the state behind -/
def cBytes (b : List Nat) (a e n : Nat) : List Nat × Nat × Nat :=
  if e = 0 then (if b.length - a < n then ([], a, 2) else ((b.drop a).take n, a + n, 0)) else ([], a, e)
theorem CurBytes_spec (h : EqFnP C) (H : EqH C) {k : Nat} (hk : 1 < k) {b : List Nat} {a e n : Nat} (ha : a ≤ b.length) (hb : b.length ≤ 1000000000) (hn : n ≤ 1000000000000) :
    C k 66 [.pt [.sl false (.ints .u8 (ints b)), .int .i64 (a : Int), .int .i64 (e : Int)], .int .i64 (n : Int)] =
      some (.sl true (.ints .u8 (ints (cBytes b a e n).1)), [.pt [.sl false (.ints .u8 (ints b)), .int .i64 ((cBytes b a e n).2.1 : Int), .int .i64 ((cBytes b a e n).2.2 : Int)]]) := by
  obtain ⟨k, rfl⟩ : ∃ m, k = m + 1 := ⟨k - 1, by omega⟩
  rw [h.CurBytes, CurBytes.f_eq, cond_bne]
  unfold cBytes
  by_cases he : e = 0
  · subst he
    rw [if_pos (by rfl), if_pos rfl, cond_dec, if_neg (by omega), CurLeft.q_ok _ _ _ (CurLeft_spec h (by omega) (by rw [ints_len]; exact ha) (by rw [ints_len]; exact hb)), cond_dec, ints_len]
    by_cases hl : b.length - a < n
    · rw [if_pos (by omega), if_pos hl, CurFail.q_ok _ _ _ _ (CurFail_spec h (by omega) ..)]; rfl
    · have e1 : IntKind.i64.wrap ((a : Int) + (n : Int)) = ((a + n : Nat) : Int) := by rw [w64 (by omega) (by omega)]; omega
      have e2 : IntKind.i64.wrap (((a + n : Nat) : Int) - (n : Int)) = ((a : Nat) : Int) := by rw [w64 (by omega) (by omega)]; omega
      rw [if_neg (by omega), if_neg hl, e1, e2, if_pos ⟨Int.natCast_nonneg _, by omega, by omega, rfl, rfl⟩, Int.toNat_natCast, Int.toNat_natCast, ints_take, ints_drop]
      obtain ⟨k, rfl⟩ : ∃ m, k = m + 1 := ⟨k - 1, by omega⟩
      rw [CloneB.q_ok _ (H.cloneB k _ (by rw [ints_len, List.length_drop, List.length_take]; unfold bound; omega))]
      have e3 : (b.take (a + n)).drop a = (b.drop a).take n := by rw [List.drop_take]; congr 1; omega
      rw [e3]
  · rw [if_neg (by omega), if_neg he]; rfl
def cByte (b : List Nat) (a e : Nat) : Nat × Nat × Nat := ((cBytes b a e 1).1.getD 0 0, (cBytes b a e 1).2)
theorem CurByte_spec (h : EqFnP C) (H : EqH C) {k : Nat} (hk : 2 < k) {b : List Nat} {a e : Nat} (ho : octets b) (ha : a ≤ b.length) (hb : b.length ≤ 1000000000) :
    C k 64 [.pt [.sl false (.ints .u8 (ints b)), .int .i64 (a : Int), .int .i64 (e : Int)]] = numRes b (cByte b a e) := by
  obtain ⟨k, rfl⟩ : ∃ m, k = m + 1 := ⟨k - 1, by omega⟩
  have hs := CurBytes_spec h H (k := k) (n := 1) (by omega) ha hb (by omega) (e := e)
  rw [show ((1 : Nat) : Int) = 1 from rfl] at hs
  rw [h.CurByte, CurByte.f_eq, CurBytes.q_ok _ _ _ _ hs, cond_beq, ints_len]
  unfold cByte cBytes
  by_cases he : e = 0
  · rw [if_pos he]
    by_cases hl : b.length - a < 1
    · rw [if_pos hl, if_neg (by simp)]; rfl
    · rw [if_neg hl]
      have hlt : a < b.length := by omega
      have e1 : (b.drop a).take 1 = [b[a]] := by rw [List.drop_eq_getElem_cons hlt]; rfl
      have h256 := ho _ (List.getElem_mem hlt)
      rw [e1, if_pos (by rfl), if_pos (Int.le_refl _), if_pos ⟨by simp, rfl⟩]
      show (some (V.int .i64 (IntKind.i64.wrap ((b[a] : Nat) : Int)), _) : Option (V × List V)) = _
      rw [w64 (by omega) (by omega)]; rfl
  · rw [if_neg he, if_neg (by simp)]; rfl
def cMost (b : List Nat) (a e m : Nat) : Nat × Nat × Nat := if m < (cNumber b a e).1 then (0, a, 3) else cNumber b a e
theorem vnum_pos : ∀ (l : List Nat) (i x n m : Nat), vnum l i x = .ok (n, m) → i < m ∧ m ≤ i + l.length
  | [], i, x, n, m, h => by simp [vnum] at h
  | c :: r, i, x, n, m, h => by
    unfold vnum at h
    split at h
    · cases h
    · split at h
      · split at h
        · cases h
        · cases h; exact ⟨by omega, by simp only [List.length_cons]; omega⟩
      · have := vnum_pos r (i + 1) _ n m h
        simp; omega
theorem vnum_err : ∀ (l : List Nat) (i x e : Nat), vnum l i x = .error e → e = 2 ∨ e = 3
  | [], i, x, e, h => by simp [vnum] at h; exact .inl h.symm
  | c :: r, i, x, e, h => by
    unfold vnum at h
    split at h
    · cases h; exact .inr rfl
    · split at h
      · split at h
        · cases h; exact .inr rfl
        · cases h
      · exact vnum_err r (i + 1) _ e h
theorem vnum_lt : ∀ (l : List Nat) (i x n m : Nat), i ≤ 9 → x < 2 ^ (7 * i) → vnum l i x = .ok (n, m) → n < 2 ^ 63
  | [], i, x, n, m, _, _, h => by simp [vnum] at h
  | c :: r, i, x, n, m, hi, hx, h => by
    unfold vnum at h
    split at h
    · cases h
    · rename_i h9
      have hsh : (c % 128) <<< (7 * i) < 2 ^ (7 * (i + 1)) := by
        rw [Nat.shiftLeft_eq, show 7 * (i + 1) = 7 + 7 * i by omega, Nat.pow_add]
        exact Nat.mul_lt_mul_of_pos_right (Nat.mod_lt _ (by omega)) (Nat.pow_pos (by omega))
      have hx' : x < 2 ^ (7 * (i + 1)) := Nat.lt_of_lt_of_le hx (Nat.pow_le_pow_right (by omega) (by omega))
      have hor := Nat.or_lt_two_pow hx' hsh
      split at h
      · split at h
        · cases h
        · cases h
          exact Nat.lt_of_lt_of_le hor (Nat.pow_le_pow_right (by omega) (by omega))
      · exact vnum_lt r (i + 1) _ n m (by omega) hor h
theorem cNumber_ok (b : List Nat) (a e : Nat) (ha : a ≤ b.length) : (cNumber b a e).2.1 ≤ b.length ∧ (e = 0 → (cNumber b a e).1 ≠ 0 → (cNumber b a e).2.2 = 0) ∧ (cNumber b a e).1 < 2 ^ 63 := by
  unfold cNumber numEnd
  split
  · split
    · rename_i n m hv
      have h1 := vnum_pos _ _ _ _ _ hv
      have h2 := vnum_lt _ _ _ _ _ (by omega) (by simp) hv
      rw [List.length_drop] at h1
      exact ⟨by simp only; omega, fun _ _ => rfl, h2⟩
    · exact ⟨ha, fun _ hn => absurd rfl hn, by simp⟩
  · rename_i he
    exact ⟨ha, fun h => absurd h he, by simp⟩
theorem CurMost_spec (h : EqFnP C) {k : Nat} (hk : big + 1 < k) {b : List Nat} {a e m : Nat} (ho : octets b) (ha : a ≤ b.length) (hb : b.length ≤ 1000000000) :
    C k 63 [.pt [.sl false (.ints .u8 (ints b)), .int .i64 (a : Int), .int .i64 (e : Int)], .int .i64 (m : Int)] = numRes b (cMost b a e m) := by
  obtain ⟨k, rfl⟩ : ∃ m, k = m + 1 := ⟨k - 1, by omega⟩
  have hs := CurNumber_spec h (k := k) (by omega) ho ha hb (e := e)
  unfold numRes at hs
  rw [h.CurMost, CurMost.f_eq, CurNumber.q_ok _ _ _ hs, cond_dec]
  obtain ⟨_, h2, _⟩ := cNumber_ok b a e ha
  unfold cMost
  by_cases hm : m < (cNumber b a e).1
  · have h0 : (cNumber b a e).2.2 = 0 := by
      by_cases he : e = 0
      · exact h2 he (by omega)
      · unfold cNumber at hm; rw [if_neg he] at hm; simp at hm
    rw [if_pos (by omega), if_pos hm, h0, CurFail.q_ok _ _ _ _ (CurFail_spec h (by omega) ..)]; rfl
  · rw [if_neg (by omega), if_neg hm]; rfl
theorem CurEnd_spec (h : EqFnP C) {k : Nat} (hk : 1 < k) {b : List Nat} {a e : Nat} (ha : a ≤ b.length) (hb : b.length ≤ 1000000000) :
    C k 23 [.pt [.sl false (.ints .u8 (ints b)), .int .i64 (a : Int), .int .i64 (e : Int)]] = numRes b (if e = 0 ∧ a < b.length then 2 else e, a, e) := by
  obtain ⟨k, rfl⟩ : ∃ m, k = m + 1 := ⟨k - 1, by omega⟩
  rw [h.CurEnd, CurEnd.f_eq, cond_beq]
  by_cases he : e = 0
  · subst he
    rw [if_pos (by rfl), CurLeft.q_ok _ _ _ (CurLeft_spec h (by omega) (by rw [ints_len]; exact ha) (by rw [ints_len]; exact hb)), cond_dec, ints_len]
    by_cases hl : a < b.length
    · rw [if_pos (by omega), if_pos ⟨rfl, hl⟩]; rfl
    · rw [if_neg (by omega), if_neg (by omega)]; rfl
  · rw [if_neg (by omega), if_neg (by omega)]; rfl
theorem CurNew_spec (h : EqFnP C) (H : EqH C) {k : Nat} (hk : 1 < k) {b : List Int} (hb : b.length ≤ bound) :
    C k 20 [.sl false (.ints .u8 b)] = some (.pt [.sl false (.ints .u8 b), .int .i64 0, .int .i64 0], []) := by
  obtain ⟨k, rfl⟩ : ∃ m, k = m + 2 := ⟨k - 2, by omega⟩
  rw [h.CurNew, CurNew.f_eq, CloneB.q_ok _ (H.cloneB k _ hb)]

/-! ### widths -/
def blen (n : Nat) : Nat := if h : n = 0 then 0 else blen (n / 2) + 1
termination_by n
decreasing_by omega
theorem blen_zero : blen 0 = 0 := by rw [blen, dif_pos rfl]
theorem blen_pos {n : Nat} (h : n ≠ 0) : blen n = blen (n / 2) + 1 := by rw [blen, dif_neg h]
theorem blen_shift : ∀ (k n : Nat), 2 ^ k ≤ n → blen n = blen (n / 2 ^ k) + k
  | 0, n, h => by simp
  | k + 1, n, h => by
    rw [Nat.pow_succ] at h
    have h1 : 2 ≤ n / 2 ^ k := by rw [Nat.le_div_iff_mul_le (Nat.pow_pos (by omega))]; omega
    rw [blen_shift k n (by omega), blen_pos (n := n / 2 ^ k) (by omega), Nat.div_div_eq_div_mul, Nat.pow_succ]; omega
theorem blen_lt : ∀ (k n : Nat), n < 2 ^ k → blen n ≤ k
  | 0, n, h => by have : n = 0 := by simp at h; exact h
                  subst this; rw [blen_zero]; omega
  | k + 1, n, h => by
    by_cases h0 : n = 0
    · subst h0; rw [blen_zero]; omega
    · rw [blen_pos h0]
      have := blen_lt k (n / 2) (by rw [Nat.pow_succ] at h; omega)
      omega
theorem lt_blen : ∀ (k n : Nat), blen n ≤ k → n < 2 ^ k
  | 0, n, h => by
    by_cases h0 : n = 0
    · subst h0; simp
    · rw [blen_pos h0] at h; omega
  | k + 1, n, h => by
    by_cases h0 : n = 0
    · subst h0; exact Nat.pow_pos (by omega)
    · rw [blen_pos h0] at h
      have := lt_blen k (n / 2) (by omega)
      rw [Nat.pow_succ]; omega
theorem blen_eq {n v : Nat} (h1 : n < 2 ^ v) (h2 : n = 0 → v = 0) (h3 : n ≠ 0 → 0 < v ∧ 2 ^ (v - 1) ≤ n) : blen n = v := by
  by_cases h0 : n = 0
  · rw [h2 h0]; subst h0; exact blen_zero
  · obtain ⟨h4, h5⟩ := h3 h0
    have h6 := blen_lt v n h1
    rcases Nat.lt_or_ge (blen n) v with h7 | h7
    · have := lt_blen (v - 1) n (by omega); omega
    · omega
def len8 : ByteArray := ⟨#[0, 1, 2, 2, 3, 3, 3, 3, 4, 4, 4, 4, 4, 4, 4, 4, 5, 5, 5, 5, 5, 5, 5, 5, 5, 5, 5, 5, 5, 5, 5, 5, 6, 6, 6, 6, 6, 6, 6, 6, 6, 6, 6, 6, 6, 6, 6, 6, 6, 6, 6, 6, 6, 6, 6, 6, 6, 6, 6, 6, 6, 6, 6, 6, 7, 7, 7, 7, 7, 7, 7, 7, 7, 7, 7, 7, 7, 7, 7, 7, 7, 7, 7, 7, 7, 7, 7, 7, 7, 7, 7, 7, 7, 7, 7, 7, 7, 7, 7, 7, 7, 7, 7, 7, 7, 7, 7, 7, 7, 7, 7, 7, 7, 7, 7, 7, 7, 7, 7, 7, 7, 7, 7, 7, 7, 7, 7, 7, 8, 8, 8, 8, 8, 8, 8, 8, 8, 8, 8, 8, 8, 8, 8, 8, 8, 8, 8, 8, 8, 8, 8, 8, 8, 8, 8, 8, 8, 8, 8, 8, 8, 8, 8, 8, 8, 8, 8, 8, 8, 8, 8, 8, 8, 8, 8, 8, 8, 8, 8, 8, 8, 8, 8, 8, 8, 8, 8, 8, 8, 8, 8, 8, 8, 8, 8, 8, 8, 8, 8, 8, 8, 8, 8, 8, 8, 8, 8, 8, 8, 8, 8, 8, 8, 8, 8, 8, 8, 8, 8, 8, 8, 8, 8, 8, 8, 8, 8, 8, 8, 8, 8, 8, 8, 8, 8, 8, 8, 8, 8, 8, 8, 8, 8, 8, 8, 8, 8, 8, 8, 8, 8, 8, 8, 8, 8, 8]⟩
theorem len8_ok {m : Nat} (h : m < 256) : ∃ v : UInt8, len8.data.toList[m]? = some v ∧ v.toNat = blen m := by
  have : ∀ m : Fin 256, ∃ v : Fin 9, (len8.data.toList[m.val]?).map UInt8.toNat = some v.val ∧ m.val < 2 ^ v.val ∧ (m.val = 0 → v.val = 0) ∧ (m.val ≠ 0 → 0 < v.val ∧ 2 ^ (v.val - 1) ≤ m.val) := by decide
  obtain ⟨v, h1, h2, h3, h4⟩ := this ⟨m, h⟩
  obtain ⟨u, h5, h6⟩ := Option.map_eq_some_iff.1 h1
  exact ⟨u, h5, by rw [h6, blen_eq h2 h3 h4]⟩
theorem len_last (k : Nat) {n a : Nat} (hn : n < 256) (ha : a ≤ 100) : Len32.e1 C k (n : Int) (a : Int) = some (.int .i64 ((a + blen n : Nat) : Int), []) := by
  obtain ⟨v, h1, h2⟩ := len8_ok hn
  have hb := blen_lt 8 n hn
  rw [Len32.e1_eq, wu8 (by omega) (by omega), if_pos (Int.natCast_nonneg _), Int.toNat_natCast]
  change (match len8.data.toList[n]? with | some b => _ | none => _) = _
  rw [h1]
  simp only
  rw [h2, w64 (x := ((blen n : Nat) : Int)) (by omega) (by omega), w64 (by omega) (by omega)]
  have e : (a : Int) + (blen n : Int) = ((a + blen n : Nat) : Int) := by omega
  rw [e]
theorem len_mid (k : Nat) {n a : Nat} (hn : n < 65536) (ha : a ≤ 50) : Len32.e0 C k (n : Int) (a : Int) = some (.int .i64 ((a + blen n : Nat) : Int), []) := by
  rw [Len32.e0_eq, cond_dec]
  by_cases h : 256 ≤ n
  · have e1 : (n : Int).fdiv (2 ^ (min (8 : Int).toNat IntKind.u32.bits)) = ((n / 256 : Nat) : Int) := by
      have := shr_nat (a := n) (k := 8) (n := IntKind.u32.bits) (by simp only [IntKind.bits]; omega)
      rw [Nat.shiftRight_eq_div_pow] at this; exact this
    have e2 : IntKind.i64.wrap ((a : Int) + 8) = ((a + 8 : Nat) : Int) := by rw [w64 (by omega) (by omega)]; omega
    rw [if_pos (by omega), e1, e2, len_last k (by omega) (by omega), blen_shift 8 n (by omega), show (2 : Nat) ^ 8 = 256 from rfl]
    congr 3; omega
  · rw [if_neg (by omega), len_last k (by omega) (by omega)]
theorem Len32_spec (h : EqFnP C) {k : Nat} (hk : 0 < k) {n : Nat} (hn : n < 4294967296) : C k 55 [.int .u32 (n : Int)] = some (.int .i64 ((blen n : Nat) : Int), []) := by
  obtain ⟨k, rfl⟩ : ∃ m, k = m + 1 := ⟨k - 1, by omega⟩
  rw [h.Len32, Len32.f_eq, cond_dec]
  by_cases hb : 65536 ≤ n
  · have e1 : (n : Int).fdiv (2 ^ (min (16 : Int).toNat IntKind.u32.bits)) = ((n / 65536 : Nat) : Int) := by
      have := shr_nat (a := n) (k := 16) (n := IntKind.u32.bits) (by simp only [IntKind.bits]; omega)
      rw [Nat.shiftRight_eq_div_pow] at this; exact this
    have := len_mid (C := C) k (n := n / 65536) (a := 16) (by omega) (by omega)
    rw [if_pos (by omega), e1]
    rw [show ((16 : Nat) : Int) = 16 from rfl] at this
    rw [this, blen_shift 16 n (by omega), show (2 : Nat) ^ 16 = 65536 from rfl]
    congr 3; omega
  · have := len_mid (C := C) k (n := n) (a := 0) (by omega) (by omega)
    rw [if_neg (by omega)]
    rw [show ((0 : Nat) : Int) = 0 from rfl, Nat.zero_add] at this
    exact this
def maxOf (l : List Nat) : Nat := l.foldl max 0
theorem max_loop (k : Nat) {l : List Nat} (hl : l.length < 1000000000000) : ∀ (d i j m : Nat), i + d = l.length → d < j → MaxInts.l0 C k j (ints l) (m : Int) (i : Int) = some (.int .i64 (((l.drop i).foldl max m : Nat) : Int), [])
  | 0, i, j, m, hd, hj => by
    obtain ⟨j, rfl⟩ : ∃ m, j = m + 1 := ⟨j - 1, by omega⟩
    rw [MaxInts.l0_eq, cond_dec, ints_len, if_neg (by omega), MaxInts.e1_eq, List.drop_of_length_le (by omega)]; rfl
  | d + 1, i, j, m, hd, hj => by
    obtain ⟨j, rfl⟩ : ∃ m, j = m + 1 := ⟨j - 1, by omega⟩
    have hlt : i < l.length := by omega
    have e1 : (if ((l.getD i 0 : Nat) : Int) > (m : Int) then ((l.getD i 0 : Nat) : Int) else (m : Int)) = ((max m (l.getD i 0) : Nat) : Int) := by
      rw [Nat.max_def]; split <;> split <;> omega
    rw [MaxInts.l0_eq, cond_dec, ints_len, if_pos (by omega), if_pos (Int.natCast_nonneg _), get_nat l hlt]
    simp only
    rw [e1, succ64 (by omega), max_loop k hl d (i + 1) j _ (by omega) (by omega), List.drop_eq_getElem_cons hlt, List.foldl_cons, List.getD_eq_getElem?_getD, List.getElem?_eq_getElem hlt]; rfl
theorem MaxInts_spec (h : EqFnP C) {k : Nat} (hk : big < k) {l : List Nat} (h0 : l ≠ []) (hl : l.length ≤ 1000000000) : C k 56 [.sl false (.ints .i64 (ints l))] = some (.int .i64 ((maxOf l : Nat) : Int), []) := by
  unfold big at hk
  obtain ⟨k, rfl⟩ : ∃ m, k = m + 1 := ⟨k - 1, by omega⟩
  obtain ⟨x, r, rfl⟩ := List.exists_cons_of_ne_nil h0
  have := max_loop (C := C) k (l := x :: r) (by omega) r.length 1 k x (by simp; omega) (by simp at hl; omega)
  rw [h.MaxInts, MaxInts.f_eq, cond_dec, ints_len, if_neg (by simp; omega), MaxInts.e0_eq, if_pos (Int.le_refl _)]
  show MaxInts.l0 C k k (ints (x :: r)) (x : Int) 1 = _
  rw [show ((1 : Nat) : Int) = 1 from rfl] at this
  rw [this]
  simp [maxOf]
def width (l : List Nat) : Nat := blen (maxOf l)
theorem max_ge : ∀ (l : List Nat) (m : Nat), m ≤ l.foldl max m ∧ ∀ x, x ∈ l → x ≤ l.foldl max m
  | [], m => ⟨Nat.le_refl _, fun x hx => by simp at hx⟩
  | y :: l, m => by
    obtain ⟨h1, h2⟩ := max_ge l (max m y)
    refine ⟨Nat.le_trans (Nat.le_max_left _ _) h1, fun x hx => ?_⟩
    rcases List.mem_cons.1 hx with rfl | hx
    · exact Nat.le_trans (Nat.le_max_right _ _) h1
    · exact h2 x hx
theorem max_lt : ∀ (l : List Nat) (m b : Nat), m < b → (∀ x, x ∈ l → x < b) → l.foldl max m < b
  | [], m, b, h, _ => h
  | y :: l, m, b, h, hx => max_lt l (max m y) b (by rw [Nat.max_def]; split; exact hx y (by simp); exact h) (fun x hxl => hx x (by simp [hxl]))
theorem width_ok {l : List Nat} {x : Nat} (hx : x ∈ l) : x < 2 ^ width l := Nat.lt_of_le_of_lt ((max_ge l 0).2 x hx) (lt_blen _ _ (Nat.le_refl _))
theorem width_le {l : List Nat} {w : Nat} (h : ∀ x, x ∈ l → x < 2 ^ w) : width l ≤ w := blen_lt w _ (max_lt l 0 _ (Nat.pow_pos (by omega)) h)
theorem Width_spec (h : EqFnP C) {k : Nat} (hk : big + 1 < k) {l : List Nat} (hx : ∀ x, x ∈ l → x < 4294967296) (hl : l.length ≤ 1000000000) : C k 16 [.sl false (.ints .i64 (ints l))] = some (.int .i64 ((width l : Nat) : Int), []) := by
  obtain ⟨k, rfl⟩ : ∃ m, k = m + 1 := ⟨k - 1, by omega⟩
  rw [h.Width, Width.f_eq, cond_beq, ints_len]
  by_cases h0 : l = []
  · subst h0
    rw [if_pos (by rfl)]
    simp [width, maxOf, blen_zero]
  · have hpos : l.length ≠ 0 := fun e => h0 (List.eq_nil_of_length_eq_zero e)
    have hm : maxOf l < 4294967296 := max_lt l 0 _ (by omega) hx
    rw [if_neg (by omega), MaxInts.s_ok _ (MaxInts_spec h (by omega) h0 hl), wu32 (by omega) (by omega), Len32.s_ok _ (Len32_spec h (by unfold big at hk; omega) hm)]
    rfl
end Go.Proofs.Ytfkkigbbejhfbaa
