/- Packed numbers written and read. -/
import Derived.Test.YtfkkigbbejhfbaaSpP3
namespace Go.Proofs.Ytfkkigbbejhfbaa
open Go Idl
set_option linter.unusedSimpArgs false
set_option linter.unusedVariables false
set_option maxRecDepth 100000
variable {C : Nat → CallF}

/-! ### put together -/
def rows8 (ps : List (List Int)) : List V := ps.map fun l => V.sl false (.ints .u8 l)
theorem rows8_get (ps : List (List Int)) {i : Nat} (h : i < ps.length) : (rows8 ps)[((i : Nat) : Int).toNat]? = some (V.sl false (.ints .u8 ps[i])) := by
  rw [Int.toNat_natCast]; simp [rows8, h]
theorem rows8_len (ps : List (List Int)) : (rows8 ps).length = ps.length := by simp [rows8]
theorem see8 {R : Type} (o : Bool) (l : List Int) (K : List Int → Option R) : seeInts o .u8 (V.sl o (.ints .u8 l)) K = K l := by simp [seeInts]
theorem sum_le {ps : List (List Int)} {i : Nat} (h : i < ps.length) : ps[i].length + (ps.drop (i + 1)).flatten.length = (ps.drop i).flatten.length := by
  rw [List.drop_eq_getElem_cons h, List.flatten_cons, List.length_append]
theorem concat_sum (k : Nat) {ps : List (List Int)} (hn : ps.length < 1000000000) : ∀ (d i j s : Nat), i + d = ps.length → d < j → s + (ps.drop i).flatten.length ≤ bound →
    Concat.l0 C k j (rows8 ps) (s : Int) (rows8 ps) (ps.length : Int) (i : Int) = Concat.e1 C k (rows8 ps) ((s + (ps.drop i).flatten.length : Nat) : Int)
  | 0, i, j, s, hd, hj, hs => by
    obtain ⟨j, rfl⟩ : ∃ m, j = m + 1 := ⟨j - 1, by omega⟩
    rw [Concat.l0_eq, cond_dec, if_neg (by omega), List.drop_of_length_le (by omega)]; rfl
  | d + 1, i, j, s, hd, hj, hs => by
    obtain ⟨j, rfl⟩ : ∃ m, j = m + 1 := ⟨j - 1, by omega⟩
    have hlt : i < ps.length := by omega
    have hsum := sum_le hlt
    unfold bound at hs
    have e1 : IntKind.i64.wrap ((s : Int) + (ps[i].length : Int)) = ((s + ps[i].length : Nat) : Int) := by rw [w64 (by omega) (by omega)]; omega
    rw [Concat.l0_eq, cond_dec, if_pos (by omega), if_pos (Int.natCast_nonneg _), rows8_get ps hlt]
    simp only
    rw [see8, cond_dec, e1, if_neg (by omega), Concat.e0_eq, succ64 (by omega), concat_sum k hn d (i + 1) j _ (by omega) (by omega) (by unfold bound; omega)]
    congr 2; omega
theorem concat_app (k : Nat) {ps : List (List Int)} (hn : ps.length < 1000000000) : ∀ (d i j : Nat) (acc : List Int), i + d = ps.length → d < j → acc.length + (ps.drop i).flatten.length ≤ bound →
    Concat.l1 C k j (rows8 ps) (ps.length : Int) (i : Int) acc = some (.sl true (.ints .u8 (acc ++ (ps.drop i).flatten)), [])
  | 0, i, j, acc, hd, hj, hs => by
    obtain ⟨j, rfl⟩ : ∃ m, j = m + 1 := ⟨j - 1, by omega⟩
    rw [Concat.l1_eq, cond_dec, if_neg (by omega), Concat.e2_eq, List.drop_of_length_le (by omega)]; simp
  | d + 1, i, j, acc, hd, hj, hs => by
    obtain ⟨j, rfl⟩ : ∃ m, j = m + 1 := ⟨j - 1, by omega⟩
    have hlt : i < ps.length := by omega
    have hsum := sum_le hlt
    rw [Concat.l1_eq, cond_dec, if_pos (by omega), if_pos (Int.natCast_nonneg _), rows8_get ps hlt]
    simp only
    rw [see8, if_pos ⟨by omega, by trivial⟩, succ64 (by omega), concat_app k hn d (i + 1) j _ (by omega) (by omega) (by rw [List.length_append]; omega), List.drop_eq_getElem_cons hlt, List.flatten_cons, List.append_assoc]
theorem Concat_spec (h : EqFnP C) (H : EqH C) {k : Nat} (hk : big < k) {ps : List (List Int)} (hn : ps.length < 1000000000) (hs : ps.flatten.length ≤ bound) :
    C k 60 [.sl false (.vals 1 (rows8 ps))] = some (.sl true (.ints .u8 ps.flatten), []) := by
  unfold big at hk
  obtain ⟨k, rfl⟩ : ∃ m, k = m + 2 := ⟨k - 2, by omega⟩
  have h1 := concat_sum (C := C) (k + 1) hn ps.length 0 (k + 1) 0 (by omega) (by omega) (by simpa using hs)
  have h2 := concat_app (C := C) (k + 1) hn ps.length 0 (k + 1) [] (by omega) (by omega) (by simpa using hs)
  rw [List.drop_zero, Nat.zero_add] at h1
  rw [List.drop_zero, List.nil_append] at h2
  rw [h.Concat, Concat.f_eq, rows8_len]
  refine Eq.trans h1 ?_
  rw [Concat.e1_eq, GrowB.q_ok _ (H.growB k _ (Int.natCast_nonneg _) (by omega)), rows8_len]
  exact h2

/-! ### alike -/
theorem ints_getD (l : List Nat) (i : Nat) : (l.getD i 0 : Nat) = (l.getD i 0 : Nat) := rfl
theorem eq_loop (k : Nat) {a b : List Nat} (hl : a.length = b.length) (hn : a.length < 1000000000000) : ∀ (d i j : Nat), i + d = a.length → d < j →
    EqBytes.l0 C k j (ints a) (ints b) (a.length : Int) (i : Int) = some (.bool (decide (a.drop i = b.drop i)), [])
  | 0, i, j, hd, hj => by
    obtain ⟨j, rfl⟩ : ∃ m, j = m + 1 := ⟨j - 1, by omega⟩
    rw [EqBytes.l0_eq, cond_dec, if_neg (by omega), EqBytes.e0_eq, List.drop_of_length_le (by omega), List.drop_of_length_le (by omega)]; rfl
  | d + 1, i, j, hd, hj => by
    obtain ⟨j, rfl⟩ : ∃ m, j = m + 1 := ⟨j - 1, by omega⟩
    have h1 : i < a.length := by omega
    have h2 : i < b.length := by omega
    rw [EqBytes.l0_eq, cond_dec, if_pos (by omega), if_pos (Int.natCast_nonneg _), get_nat a h1]
    simp only
    rw [if_pos (Int.natCast_nonneg _), get_nat b h2]
    simp only
    rw [cond_bne, List.drop_eq_getElem_cons h1, List.drop_eq_getElem_cons h2, List.getD_eq_getElem?_getD, List.getD_eq_getElem?_getD, List.getElem?_eq_getElem h1, List.getElem?_eq_getElem h2]
    simp only [Option.getD_some]
    by_cases e : a[i] = b[i]
    · rw [if_pos (by omega), succ64 (by omega), eq_loop k hl hn d (i + 1) j (by omega) (by omega)]
      simp only [e, List.cons.injEq, true_and]
    · rw [if_neg (by omega)]
      simp only [e, List.cons.injEq, false_and, decide_false]
theorem EqBytes_spec (h : EqFnP C) {k : Nat} (hk : big < k) {a b : List Nat} (ha : a.length ≤ 10000000000) :
    C k 67 [.sl false (.ints .u8 (ints a)), .sl false (.ints .u8 (ints b))] = some (.bool (decide (a = b)), []) := by
  unfold big at hk
  obtain ⟨k, rfl⟩ : ∃ m, k = m + 1 := ⟨k - 1, by omega⟩
  rw [h.EqBytes, EqBytes.f_eq, cond_bne, ints_len, ints_len]
  by_cases hl : a.length = b.length
  · rw [if_pos (by omega)]
    have := eq_loop (C := C) k hl (by omega) a.length 0 k (by omega) (by omega)
    simpa using this
  · rw [if_neg (by omega), decide_eq_false (fun e => hl (by rw [e]))]
theorem refints_loop (k : Nat) {a b : List Nat} (hl : a.length = b.length) (hn : a.length < 1000000000000) : ∀ (d i j : Nat), i + d = a.length → d < j →
    RefInts.l0 C k j (ints a) (ints b) (i : Int) = some (.bool (decide (a.drop i = b.drop i)), [])
  | 0, i, j, hd, hj => by
    obtain ⟨j, rfl⟩ : ∃ m, j = m + 1 := ⟨j - 1, by omega⟩
    rw [RefInts.l0_eq, cond_dec, ints_len, if_neg (by omega), RefInts.e0_eq, List.drop_of_length_le (by omega), List.drop_of_length_le (by omega)]; rfl
  | d + 1, i, j, hd, hj => by
    obtain ⟨j, rfl⟩ : ∃ m, j = m + 1 := ⟨j - 1, by omega⟩
    have h1 : i < a.length := by omega
    have h2 : i < b.length := by omega
    rw [RefInts.l0_eq, cond_dec, ints_len, if_pos (by omega), if_pos (Int.natCast_nonneg _), get_nat a h1]
    simp only
    rw [if_pos (Int.natCast_nonneg _), get_nat b h2]
    simp only
    rw [cond_bne, List.drop_eq_getElem_cons h1, List.drop_eq_getElem_cons h2, List.getD_eq_getElem?_getD, List.getD_eq_getElem?_getD, List.getElem?_eq_getElem h1, List.getElem?_eq_getElem h2]
    simp only [Option.getD_some]
    by_cases e : a[i] = b[i]
    · rw [if_pos (by omega), succ64 (by omega), refints_loop k hl hn d (i + 1) j (by omega) (by omega)]
      simp only [e, List.cons.injEq, true_and]
    · rw [if_neg (by omega)]
      simp only [e, List.cons.injEq, false_and, decide_false]
theorem RefInts_spec (h : EqFnP C) {k : Nat} (hk : big < k) {a b : List Nat} (ha : a.length ≤ 10000000000) :
    C k 21 [.sl false (.ints .i64 (ints a)), .sl false (.ints .i64 (ints b))] = some (.bool (decide (a = b)), []) := by
  unfold big at hk
  obtain ⟨k, rfl⟩ : ∃ m, k = m + 1 := ⟨k - 1, by omega⟩
  rw [h.RefInts, RefInts.f_eq, cond_bne, ints_len, ints_len]
  by_cases hl : a.length = b.length
  · rw [if_pos (by omega)]
    have := refints_loop (C := C) k hl (by omega) a.length 0 k (by omega) (by omega)
    simpa using this
  · rw [if_neg (by omega), decide_eq_false (fun e => hl (by rw [e]))]

/-! ### written -/
theorem bad_loop (h : EqFnP C) {k : Nat} (hk : 0 < k) {l : List Nat} (hx : ∀ x, x ∈ l → x < 4294967296) (hn : l.length < 1000000000000) : ∀ (d i j : Nat), i + d = l.length → d < j →
    IdxBad.l0 C k j (ints l) (l.length : Int) (i : Int) = some (.int .i64 (-1), [])
  | 0, i, j, hd, hj => by
    obtain ⟨j, rfl⟩ : ∃ m, j = m + 1 := ⟨j - 1, by omega⟩
    rw [IdxBad.l0_eq, cond_dec, if_neg (by omega), IdxBad.e0_eq]
  | d + 1, i, j, hd, hj => by
    obtain ⟨j, rfl⟩ : ∃ m, j = m + 1 := ⟨j - 1, by omega⟩
    have h1 : i < l.length := by omega
    have hm : l.getD i 0 < 4294967296 := hx _ (by rw [List.getD_eq_getElem?_getD, List.getElem?_eq_getElem h1]; exact List.getElem_mem h1)
    have hb : C k 59 [.int .i64 ((l.getD i 0 : Nat) : Int)] = some (.bool false, []) := by
      obtain ⟨k, rfl⟩ : ∃ m, k = m + 1 := ⟨k - 1, by omega⟩
      rw [h.PackBad, PackBad.f_eq, cond_dec, if_neg (by omega), decide_eq_false (by omega)]
    rw [IdxBad.l0_eq, cond_dec, if_pos (by omega), if_pos (Int.natCast_nonneg _), get_nat l h1]
    simp only
    rw [PackBad.s_ok _ hb, succ64 (by omega)]
    exact bad_loop h hk hx hn d (i + 1) j (by omega) (by omega)
theorem HasBad_spec (h : EqFnP C) {k : Nat} (hk : big + 2 < k) {l : List Nat} (hx : ∀ x, x ∈ l → x < 4294967296) (hn : l.length ≤ 1000000000) :
    C k 58 [.sl false (.ints .i64 (ints l)), .fn 59 []] = some (.bool false, []) := by
  unfold big at hk
  obtain ⟨k, rfl⟩ : ∃ m, k = m + 2 := ⟨k - 2, by omega⟩
  have hi : C (k + 1) 93 [.sl false (.ints .i64 (ints l)), .fn 59 []] = some (.int .i64 (-1), []) := by
    rw [h.IdxBad, IdxBad.f_eq, ints_len]
    exact bad_loop h (by omega) hx (by omega) l.length 0 k (by omega) (by omega)
  rw [h.HasBad, HasBad.f_eq, IdxBad.s_ok _ hi]; rfl
/-- what a list of numbers is written as -/
def Written (l o : List Nat) : Prop := ∃ b, Packed b l (width l) ∧ o = vput l.length ++ width l :: b
theorem PackWrite_spec (h : EqFnP C) (H : EqH C) {k : Nat} (hk : big + 3 < k) {l : List Nat} (hx : ∀ x, x ∈ l → x < 4294967296) (hn : l.length ≤ 1000000000) :
    ∃ o, Written l o ∧ C k 18 [.sl false (.ints .i64 (ints l))] = some (.tup [.sl true (.ints .u8 (ints o)), .int .i64 0], []) := by
  obtain ⟨k, rfl⟩ : ∃ m, k = m + 1 := ⟨k - 1, by omega⟩
  have hw : width l ≤ 32 := width_le hx
  obtain ⟨b, h1, h2⟩ := PackPut_spec h (k := k) (by omega) hw (fun x hx => width_ok hx) hn
  have hv := vput_len 8 l.length (by omega)
  have hbl := h1.len
  have hmul : l.length * width l ≤ l.length * 32 := Nat.mul_le_mul_left _ hw
  refine ⟨_, ⟨b, h1, rfl⟩, ?_⟩
  have hc := Concat_spec h H (k := k) (by omega) (ps := [ints (vput l.length), [((width l : Nat) : Int)], ints b]) (by simp) (by simp [ints_len]; unfold bound; omega)
  have e1 : ([V.sl false (Arr.ints IntKind.u8 (ints (vput l.length))), V.sl false (Arr.ints IntKind.u8 [((width l : Nat) : Int)]), V.sl false (Arr.ints IntKind.u8 (ints b))] : List V) = rows8 [ints (vput l.length), [((width l : Nat) : Int)], ints b] := rfl
  have e2 : [ints (vput l.length), [((width l : Nat) : Int)], ints b].flatten = ints (vput l.length ++ width l :: b) := by simp [ints]
  rw [e2] at hc
  rw [h.PackWrite, PackWrite.f_eq, HasBad.s_ok _ (HasBad_spec h (by omega) hx hn)]
  rw [cond_false, Width.s_ok _ (Width_spec h (by omega) hx hn), PackPut.q_ok _ _ h2, ints_len, CurPut.q_ok _ (CurPut_spec h (by omega) (by omega)), wu8 (by omega) (by omega), e1, Concat.q_ok _ hc]

/-! ### read -/
structure Got (p l : List Nat) (w : Nat) : Prop where
  lt : ∀ x, x ∈ l → x < 2 ^ w
  bit : ∀ i, i < l.length → ∀ r, r < w → (l.getD i 0).testBit r = bitAt p (i * w + r)
theorem Got.snoc {p l : List Nat} {w y : Nat} (h : Got p l w) (hy : y < 2 ^ w) (hb : ∀ r, y.testBit r = (Nat.testBit 0 r || (decide (0 ≤ r ∧ r < w) && bitAt p (l.length * w + r)))) : Got p (l ++ [y]) w := by
  refine ⟨fun x hx => ?_, fun i hi r hr => ?_⟩
  · rcases List.mem_append.1 hx with hx | hx
    · exact h.lt x hx
    · simp at hx; rw [hx]; exact hy
  · rw [List.getD_eq_getElem?_getD]
    by_cases hl : i < l.length
    · rw [List.getElem?_append_left hl, ← List.getD_eq_getElem?_getD]; exact h.bit i hl r hr
    · have hi' : i = l.length := by simp at hi; omega
      subst hi'
      rw [List.getElem?_append_right (Nat.le_refl _)]
      simp only [Nat.sub_self, List.getElem?_cons_zero, Option.getD_some]
      rw [hb, Nat.zero_testBit, Bool.false_or, decide_eq_true (by omega), Bool.true_and]
theorem Got.eq {p l m : List Nat} {w : Nat} (h : Got p l w) (h' : Got p m w) (hl : l.length = m.length) : l = m := by
  apply List.ext_getElem hl
  intro i h1 h2
  apply Nat.eq_of_testBit_eq
  intro r
  by_cases hr : r < w
  · have e1 := h.bit i h1 r hr
    have e2 := h'.bit i h2 r hr
    rw [List.getD_eq_getElem?_getD, List.getElem?_eq_getElem h1] at e1
    rw [List.getD_eq_getElem?_getD, List.getElem?_eq_getElem h2] at e2
    simpa using e1.trans e2.symm
  · rw [Nat.testBit_lt_two_pow (Nat.lt_of_lt_of_le (h.lt _ (List.getElem_mem h1)) (Nat.pow_le_pow_right (by omega) (by omega))),
      Nat.testBit_lt_two_pow (Nat.lt_of_lt_of_le (h'.lt _ (List.getElem_mem h2)) (Nat.pow_le_pow_right (by omega) (by omega)))]
theorem Packed.got {p l : List Nat} {w : Nat} (h : Packed p l w) (hx : ∀ x, x ∈ l → x < 2 ^ w) : Got p l w := by
  refine ⟨hx, fun i hi r hr => ?_⟩
  have hmi : (i + 1) * w ≤ l.length * w := Nat.mul_le_mul_right w hi
  have hsi : (i + 1) * w = i * w + w := by rw [Nat.add_mul, Nat.one_mul]
  have e1 : (i * w + r) / w = i := by rw [Nat.mul_comm, Nat.mul_add_div (by omega), Nat.div_eq_of_lt hr, Nat.add_zero]
  have e2 : (i * w + r) % w = r := by rw [Nat.mul_comm, Nat.mul_add_mod, Nat.mod_eq_of_lt hr]
  rw [h.bit, decide_eq_true (by omega), Bool.true_and, e1, e2]
theorem PackGet_any (h : EqFnP C) {k : Nat} {p : List Nat} {w i : Nat} (hk : big < k) (hw : w ≤ 32) (ho : octets p) (hi : i * w + w < 1000000000000) :
    ∃ y : Nat, y < 2 ^ w ∧ (∀ r, y.testBit r = (Nat.testBit 0 r || (decide (0 ≤ r ∧ r < w) && bitAt p (i * w + r)))) ∧ C k 19 [.sl false (.ints .u8 (ints p)), .int .i64 (w : Int), .int .i64 (i : Int)] = some (.int .i64 (y : Int), []) := by
  unfold big at hk
  obtain ⟨k, rfl⟩ : ∃ m, k = m + 1 := ⟨k - 1, by omega⟩
  obtain ⟨y, y1, y2, y3⟩ := get_bits (C := C) (k := k) (j := k) (b := p) hw ho hi w 0 k 0 (by omega) (by omega) (by simp)
  exact ⟨y, y1, y2, by rw [h.PackGet, PackGet.f_eq]; exact y3⟩
theorem read_loop (h : EqFnP C) {k : Nat} (hk : big < k) {b p : List Nat} {w n a e : Nat} (hw : w ≤ 32) (ho : octets p) (hn : n ≤ 1000000000) : ∀ (d j : Nat) (acc : List Nat), acc.length + d = n → d < j → Got p acc w →
    ∃ l, l.length = n ∧ Got p l w ∧ PackRead.l0 C k j (w : Int) (n : Int) (acc.length : Int) (ints b) (a : Int) (e : Int) (ints p) (ints acc) = PackRead.e0 C k (w : Int) (ints b) (a : Int) (e : Int) (ints p) (ints l)
  | 0, j, acc, hd, hj, hg => by
    obtain ⟨j, rfl⟩ : ∃ m, j = m + 1 := ⟨j - 1, by omega⟩
    refine ⟨acc, by omega, hg, ?_⟩
    rw [PackRead.l0_eq, cond_dec, if_neg (by omega)]
  | d + 1, j, acc, hd, hj, hg => by
    obtain ⟨j, rfl⟩ : ∃ m, j = m + 1 := ⟨j - 1, by omega⟩
    have hmul : acc.length * w ≤ acc.length * 32 := Nat.mul_le_mul_left _ hw
    obtain ⟨y, y1, y2, y3⟩ := PackGet_any h hk hw ho (i := acc.length) (by omega)
    obtain ⟨l, h1, h2, h3⟩ := read_loop h hk (b := b) (a := a) (e := e) hw ho hn d j (acc ++ [y]) (by simp; omega) (by omega) (hg.snoc y1 y2)
    refine ⟨l, h1, h2, ?_⟩
    rw [PackRead.l0_eq, cond_dec, if_pos (by omega), PackGet.s_ok _ _ _ y3, if_pos ⟨by simp [ints_len]; unfold bound; omega, rfl⟩, succ64 (by omega)]
    have e1 : ints acc ++ [((y : Nat) : Int)] = ints (acc ++ [y]) := by simp [ints]
    rw [e1, ← h3]
    simp
def readRes (l : List Nat) (b : List Nat) (a e : Nat) : Option (V × List V) :=
  some (.sl false (.ints .i64 (ints l)), [.pt [.sl false (.ints .u8 (ints b)), .int .i64 (a : Int), .int .i64 (e : Int)]])
theorem cMost_ok (b : List Nat) (a e m : Nat) (ha : a ≤ b.length) : (cMost b a e m).2.1 ≤ b.length ∧ (cMost b a e m).1 ≤ m := by
  unfold cMost
  split
  · exact ⟨ha, Nat.zero_le _⟩
  · exact ⟨(cNumber_ok b a e ha).1, by omega⟩
theorem cBytes_ok (b : List Nat) (a e n : Nat) (ha : a ≤ b.length) : (cBytes b a e n).2.1 ≤ b.length ∧ (∀ x, x ∈ (cBytes b a e n).1 → x ∈ b) := by
  unfold cBytes
  split
  · split
    · exact ⟨ha, fun x hx => by simp at hx⟩
    · exact ⟨by simp only; omega, fun x hx => List.mem_of_mem_drop (List.mem_of_mem_take hx)⟩
  · exact ⟨ha, fun x hx => by simp at hx⟩
theorem cByte_ok (b : List Nat) (a e : Nat) (ha : a ≤ b.length) (ho : octets b) : (cByte b a e).2.1 ≤ b.length ∧ (cByte b a e).1 < 256 := by
  obtain ⟨h1, h2⟩ := cBytes_ok b a e 1 ha
  refine ⟨h1, ?_⟩
  unfold cByte
  simp only [List.getD_eq_getElem?_getD]
  cases hx : (cBytes b a e 1).1[0]? with
  | none => simp
  | some x => exact ho x (h2 x (List.mem_of_getElem? hx))
/-- Read: nothing and an error, or numbers that are written as they stood -/
theorem PackRead_spec (h : EqFnP C) (H : EqH C) {k : Nat} (hk : big + 4 < k) {b : List Nat} {a e m : Nat} (ho : octets b) (ha : a ≤ b.length) (hb : b.length ≤ 1000000000) (hm : m ≤ 1000000000)
    {n a1 e1 w a2 e2 a3 e3 : Nat} {p : List Nat} (h1 : cMost b a e m = (n, a1, e1)) (h2 : cByte b a1 e1 = (w, a2, e2)) (h3 : cBytes b a2 e2 ((n * w + 7) / 8) = (p, a3, e3))
    (R : Option (V × List V)) (hR : R = C k 22 [.pt [.sl false (.ints .u8 (ints b)), .int .i64 (a : Int), .int .i64 (e : Int)], .int .i64 (m : Int)]) :
    (32 < w → R = readRes [] b a2 (if e2 = 0 then 3 else e2)) ∧
    (w ≤ 32 → e3 ≠ 0 → R = readRes [] b a3 e3) ∧
    (w ≤ 32 → e3 = 0 → ∃ l, l.length = n ∧ Got p l w ∧ ((width l = w ∧ Packed p l w) → R = readRes l b a3 0) ∧ (¬ (width l = w ∧ Packed p l w) → R = readRes [] b a3 3)) := by
  subst hR
  obtain ⟨k, rfl⟩ : ∃ m, k = m + 1 := ⟨k - 1, by omega⟩
  have m1 := cMost_ok b a e m ha
  have s1 := CurMost_spec h (k := k) (by omega) ho ha hb (e := e) (m := m)
  rw [h1] at m1 s1
  have m2 := cByte_ok b a1 e1 m1.1 ho
  have s2 := CurByte_spec h H (k := k) (by omega) ho m1.1 hb (e := e1)
  rw [h2] at m2 s2
  simp only at m1 m2
  unfold numRes at s1 s2
  simp only at s1 s2
  have hmul : n * w ≤ n * 256 := Nat.mul_le_mul_left _ (by omega)
  have m3 := cBytes_ok b a2 e2 ((n * w + 7) / 8) m2.1
  have s3 := CurBytes_spec h H (k := k) (by omega) m2.1 hb (e := e2) (n := (n * w + 7) / 8) (by omega)
  rw [h3] at m3 s3
  simp only at m3 s3
  rw [h.PackRead, PackRead.f_eq, CurMost.q_ok _ _ _ _ s1, CurByte.q_ok _ _ _ s2, cond_dec]
  refine ⟨fun hw => ?_, fun hw he => ?_, fun hw he => ?_⟩
  · rw [if_pos (by omega), CurFail.q_ok _ _ _ _ (CurFail_spec h (by omega) ..)]
    unfold readRes
    congr 5
    by_cases h0 : e2 = 0
    · rw [if_pos (by omega), if_pos h0]; rfl
    · rw [if_neg (by omega), if_neg h0]
  · rw [if_neg (by omega), PackSize.s_ok _ _ (PackSize_spec h (by omega) (by omega)), CurBytes.q_ok _ _ _ _ s3, CurGood.q_ok _ _ _ (CurGood_spec h (by omega) ..)]
    have : ((e3 : Int) == 0) = false := by simp; omega
    rw [this]; rfl
  · subst he
    rw [if_neg (by omega), PackSize.s_ok _ _ (PackSize_spec h (by omega) (by omega)), CurBytes.q_ok _ _ _ _ s3, CurGood.q_ok _ _ _ (CurGood_spec h (by omega) ..)]
    obtain ⟨l, l1, l2, l3⟩ := read_loop h (k := k) (by omega) (b := b) (p := p) (w := w) (n := n) (a := a3) (e := 0) hw (fun x hx => ho x (m3.2 x hx)) (by omega) n k [] (by simp) (by unfold big at hk; omega) ⟨fun x hx => by simp at hx, fun i hi => by simp at hi⟩
    have hlen : l.length ≤ 1000000000 := by omega
    obtain ⟨q, q1, q2⟩ := PackPut_spec h (k := k) (by omega) hw l2.lt hlen
    have h32 : ∀ x, x ∈ l → x < 4294967296 := fun x hx => Nat.lt_of_lt_of_le (l2.lt x hx) (show 2 ^ w ≤ 2 ^ 32 from Nat.pow_le_pow_right (by omega) hw)
    have hqmul : l.length * w ≤ l.length * 32 := Nat.mul_le_mul_left _ hw
    have run : (bif !((0 : Nat) : Int) == 0 then some (V.sl true (Arr.ints IntKind.i64 ([] : List Int)), [V.pt [V.sl false (Arr.ints IntKind.u8 (ints b)), V.int IntKind.i64 (a3 : Int), V.int IntKind.i64 ((0 : Nat) : Int)]])
        else PackRead.l0 C k k (w : Int) (n : Int) 0 (ints b) (a3 : Int) ((0 : Nat) : Int) (ints p) ([] : List Int)) = PackRead.e0 C k (w : Int) (ints b) (a3 : Int) ((0 : Nat) : Int) (ints p) (ints l) := l3
    refine ⟨l, l1, l2, fun hh => ?_, fun hh => ?_⟩
    all_goals
      refine Eq.trans run ?_
      rw [PackRead.e0_eq, PackPut.q_ok _ _ q2, Width.s_ok _ (Width_spec h (by omega) h32 hlen), cond_bne]
    · rw [if_pos (by omega), EqBytes.s_ok _ _ (EqBytes_spec h (by omega) (by rw [q1.len]; omega)), decide_eq_true (q1.unique hh.2)]; rfl
    · by_cases hw2 : width l = w
      · have hq : q ≠ p := fun e => hh ⟨hw2, by rw [← e]; exact q1⟩
        rw [if_pos (by omega), EqBytes.s_ok _ _ (EqBytes_spec h (by omega) (by rw [q1.len]; omega)), decide_eq_false hq]
        rw [Bool.not_false, cond_true, CurFail.q_ok _ _ _ _ (CurFail_spec h (by omega) ..)]; rfl
      · rw [if_neg (by omega), CurFail.q_ok _ _ _ _ (CurFail_spec h (by omega) ..)]; rfl

/-! ### what is written is read -/
theorem vnum_vput : ∀ (d n i x : Nat) (r : List Nat), n < 128 ^ (d + 1) → i + d < 9 → (i = 0 ∨ 0 < n) → x < 2 ^ (7 * i) → vnum (vput n ++ r) i x = .ok (x ||| n <<< (7 * i), i + (vput n).length)
  | 0, n, i, x, r, hn, hi, h0, hx => by
    have hs : n < 128 := by simpa using hn
    rw [vput_small hs]
    have h9 : i ≠ 9 := by omega
    have h00 : ¬ (n = 0 ∧ 0 < i) := by omega
    simp [vnum, h9, hs, h00, Nat.mod_eq_of_lt hs]
  | d + 1, n, i, x, r, hn, hi, h0, hx => by
    by_cases hs : n < 128
    · rw [vput_small hs]
      have h9 : i ≠ 9 := by omega
      have h00 : ¬ (n = 0 ∧ 0 < i) := by omega
      simp [vnum, h9, hs, h00, Nat.mod_eq_of_lt hs]
    · have h9 : i ≠ 9 := by omega
      have h128 : ¬ (n % 128 + 128 < 128) := by omega
      have hx' : x ||| (n % 128) <<< (7 * i) < 2 ^ (7 * (i + 1)) := by
        refine Nat.or_lt_two_pow (Nat.lt_of_lt_of_le hx (Nat.pow_le_pow_right (by omega) (by omega))) ?_
        rw [Nat.shiftLeft_eq, show 7 * (i + 1) = 7 + 7 * i by omega, Nat.pow_add]
        exact Nat.mul_lt_mul_of_pos_right (Nat.mod_lt _ (by omega)) (Nat.pow_pos (by omega))
      have ih := vnum_vput d (n / 128) (i + 1) (x ||| (n % 128) <<< (7 * i)) r (Nat.div_lt_of_lt_mul (by rw [Nat.pow_succ] at hn; omega)) (by omega) (.inr (by omega)) hx'
      rw [vput_great hs, List.cons_append, vnum, if_neg h9, if_neg h128, show (n % 128 + 128) % 128 = n % 128 by omega, ih, List.length_cons]
      congr 2
      · rw [Nat.or_assoc]
        congr 1
        have e1 : n = (n / 128) <<< 7 ||| n % 128 := by
          rw [← Nat.shiftLeft_add_eq_or_of_lt (by omega : n % 128 < 2 ^ 7), Nat.shiftLeft_eq]; omega
        conv => rhs; rw [e1]
        rw [Nat.shiftLeft_or_distrib, ← Nat.shiftLeft_add, Nat.or_comm, show 7 + 7 * i = 7 * (i + 1) by omega]
      · omega
theorem cNumber_put {n : Nat} (hn : n < 128 ^ 9) (pre r : List Nat) : cNumber (pre ++ (vput n ++ r)) pre.length 0 = (n, pre.length + (vput n).length, 0) := by
  unfold cNumber
  rw [if_pos rfl, List.drop_left, vnum_vput 8 n 0 0 r hn (by omega) (.inl rfl) (by simp)]
  simp [numEnd]
theorem read_written (h : EqFnP C) (H : EqH C) {k : Nat} (hk : big + 4 < k) {l o : List Nat} (hw : Written l o) (hx : ∀ x, x ∈ l → x < 4294967296) {m : Nat} (hl : l.length ≤ m) (hm : m ≤ 1000000) (pre r : List Nat) (ho : octets (pre ++ (o ++ r))) (hb : (pre ++ (o ++ r)).length ≤ 1000000000) :
    C k 22 [.pt [.sl false (.ints .u8 (ints (pre ++ (o ++ r)))), .int .i64 (pre.length : Int), .int .i64 ((0 : Nat) : Int)], .int .i64 (m : Int)] = readRes l (pre ++ (o ++ r)) (pre.length + o.length) 0 := by
  obtain ⟨b, h1, rfl⟩ := hw
  have h32 : width l ≤ 32 := width_le hx
  have e0 : pre ++ ((vput l.length ++ width l :: b) ++ r) = pre ++ (vput l.length ++ (width l :: (b ++ r))) := by simp
  have c1 : cMost (pre ++ ((vput l.length ++ width l :: b) ++ r)) pre.length 0 m = (l.length, pre.length + (vput l.length).length, 0) := by
    rw [e0]
    unfold cMost
    rw [cNumber_put (by omega), if_neg (by simp only; omega)]
  have d1 : (pre ++ ((vput l.length ++ width l :: b) ++ r)).drop (pre.length + (vput l.length).length) = width l :: (b ++ r) := by
    rw [e0, ← List.append_assoc, List.drop_left' (by simp)]
  have n1 : (pre ++ ((vput l.length ++ width l :: b) ++ r)).length = pre.length + (vput l.length).length + 1 + b.length + r.length := by simp; omega
  have c2 : cByte (pre ++ ((vput l.length ++ width l :: b) ++ r)) (pre.length + (vput l.length).length) 0 = (width l, pre.length + (vput l.length).length + 1, 0) := by
    unfold cByte cBytes
    rw [if_pos rfl, if_neg (by omega), d1]; rfl
  have d2 : (pre ++ ((vput l.length ++ width l :: b) ++ r)).drop (pre.length + (vput l.length).length + 1) = b ++ r := by
    rw [← List.drop_drop, d1]; rfl
  have c3 : cBytes (pre ++ ((vput l.length ++ width l :: b) ++ r)) (pre.length + (vput l.length).length + 1) 0 ((l.length * width l + 7) / 8) = (b, pre.length + (vput l.length).length + 1 + b.length, 0) := by
    unfold cBytes
    rw [if_pos rfl, ← h1.len, if_neg (by omega), d2, List.take_left]
  have sp := (PackRead_spec h H hk ho (by simp) hb (by omega) c1 c2 c3 _ rfl).2.2 h32 rfl
  obtain ⟨l', l1, l2, l3, _⟩ := sp
  have : l' = l := l2.eq (h1.got (fun x hx => width_ok hx)) l1
  subst this
  rw [l3 ⟨rfl, h1⟩]
  congr 1
  simp; omega
end Go.Proofs.Ytfkkigbbejhfbaa
