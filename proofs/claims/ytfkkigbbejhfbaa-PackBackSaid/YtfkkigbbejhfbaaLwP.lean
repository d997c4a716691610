/- PackBack, as a statement about its printed equations. -/
import Derived.Test.YtfkkigbbejhfbaaSpP4
import Derived.Test.YtfkkigbbejhfbaaFnA
namespace Go.Proofs.Ytfkkigbbejhfbaa
open Go Idl
set_option linter.unusedSimpArgs false
set_option linter.unusedVariables false
set_option maxRecDepth 100000
variable {C : Nat → CallF}

theorem packed57 : Packed [57] [1, 2, 3] 2 := by
  refine ⟨rfl, fun x hx => by simp at hx; omega, fun q => ?_⟩
  by_cases hq : q < 8
  · have : ∀ q : Fin 8, bitAt [57] q.val = (decide (q.val < [1, 2, 3].length * 2) && ([1, 2, 3].getD (q.val / 2) 0).testBit (q.val % 2)) := by decide
    exact this ⟨q, hq⟩
  · rw [decide_eq_false (by simp; omega), Bool.false_and]
    unfold bitAt
    rw [List.getD_eq_getElem?_getD, List.getElem?_eq_none (by simp; omega)]; simp
theorem blen2 : blen 2 = 2 := blen_eq (by decide) (by decide) (by decide)
theorem blen3 : blen 3 = 2 := blen_eq (by decide) (by decide) (by decide)
theorem blen4 : blen 4 = 3 := blen_eq (by decide) (by decide) (by decide)
theorem Awake03_spec (h : EqFnP C) (H : EqH C) {k : Nat} (hk : big + 5 < k) : C k 15 [] = some (.bool true, []) := by
  obtain ⟨k, rfl⟩ : ∃ m, k = m + 1 := ⟨k - 1, by omega⟩
  obtain ⟨b, b1, b2⟩ := PackPut_spec h (k := k) (l := [1, 2, 3]) (w := 2) (by omega) (by omega) (by intro x hx; simp at hx; omega) (by simp)
  obtain ⟨o, ⟨c, c1, rfl⟩, o2⟩ := PackWrite_spec h H (k := k) (l := [1, 2, 3]) (by omega) (by intro x hx; simp at hx; omega) (by simp)
  have hb := b1.unique packed57
  subst hb
  have hw : width [1, 2, 3] = 2 := blen3
  have hc : c.length = 1 := by rw [c1.len, hw]; rfl
  have g := PackGet_spec h (k := k) (by omega) (by omega) b1 (i := 1) (by simp) (by simp) (by intro x hx; simp at hx; omega)
  have w4 := Width_spec h (k := k) (l := [4, 1]) (by omega) (by intro x hx; simp at hx; omega) (by simp)
  have e4 : width [4, 1] = 3 := blen4
  rw [e4] at w4
  have n3 : (ints (vput [1, 2, 3].length ++ width [1, 2, 3] :: c)).length = 3 := by
    rw [ints_len, vput_small (by simp)]; simp [hc]
  have i3 : ([1, 2, 3] : List Int) = ints [1, 2, 3] := rfl
  have i4 : ([4, 1] : List Int) = ints [4, 1] := rfl
  have b2' : C k 17 [.sl false (.ints .i64 (ints [1, 2, 3])), .int .i64 2] = some (.tup [.sl true (.ints .u8 (ints [57])), .int .i64 0], []) := b2
  have g' : C k 19 [.sl false (.ints .u8 (ints [57])), .int .i64 2, .int .i64 1] = some (.int .i64 2, []) := g
  rw [h.Awake03, Awake03.f_eq, i3, i4, PackPut.q_ok _ _ b2', PackWrite.q_ok _ o2, cond_beq, if_pos rfl, cond_beq, if_pos (by rfl), if_pos (Int.le_refl _), if_pos ⟨by decide, rfl⟩]
  show (bif (57 : Int) == 57 then _ else _) = _
  rw [cond_beq, if_pos rfl, cond_beq, if_pos rfl, cond_beq, if_pos (by rw [n3]; rfl), PackGet.s_ok _ _ _ g', cond_beq, if_pos rfl, Width.s_ok _ w4]; rfl

theorem copy_loop (k : Nat) {l : List Nat} {m : Int} (hx : ∀ x, x ∈ l → x < 4294967296) (hl : l.length ≤ 1000) : ∀ (d i j : Nat), i + d = l.length → d < j →
    PackBack.l0 C k j (ints l) m (i : Int) (ints (l.take i)) = PackBack.e0 C k m (ints l)
  | 0, i, j, hd, hj => by
    obtain ⟨j, rfl⟩ : ∃ m, j = m + 1 := ⟨j - 1, by omega⟩
    rw [PackBack.l0_eq, cond_dec, ints_len, if_neg (by omega), List.take_of_length_le (by omega)]
  | d + 1, i, j, hd, hj => by
    obtain ⟨j, rfl⟩ : ∃ m, j = m + 1 := ⟨j - 1, by omega⟩
    have hlt : i < l.length := by omega
    have hv : l.getD i 0 < 4294967296 := by rw [List.getD_eq_getElem?_getD, List.getElem?_eq_getElem hlt]; exact hx _ (List.getElem_mem hlt)
    have e1 : ints (l.take i) ++ [((l.getD i 0 : Nat) : Int)] = ints (l.take (i + 1)) := by
      rw [List.take_succ_eq_append_getElem hlt, List.getD_eq_getElem?_getD, List.getElem?_eq_getElem hlt]
      exact ints_append (l.take i) [l[i]]
    rw [PackBack.l0_eq, cond_dec, ints_len, if_pos (by omega), if_pos (Int.natCast_nonneg _), get_nat l hlt]
    simp only
    rw [w64 (x := ((l.getD i 0 : Nat) : Int)) (by omega) (by omega), if_pos ⟨by simp [ints]; unfold bound; omega, by trivial⟩, succ64 (by omega), e1]
    exact copy_loop k hx hl d (i + 1) j (by omega) (by omega)
theorem got_loop (h : EqFnP C) {k : Nat} (hk : big < k) {l b : List Nat} {w : Nat} {c : List Int} (hw : w ≤ 32) (hb : Packed b l w) (hx : ∀ x, x ∈ l → x < 2 ^ w) (hl : l.length ≤ 1000) : ∀ (d i j : Nat), i + d = l.length → d < j →
    PackBack.l1 C k j (w : Int) (i : Int) (ints l) (ints b) c = PackBack.e2 C k (ints l) c
  | 0, i, j, hd, hj => by
    obtain ⟨j, rfl⟩ : ∃ m, j = m + 1 := ⟨j - 1, by omega⟩
    rw [PackBack.l1_eq, cond_dec, ints_len, if_neg (by omega)]
  | d + 1, i, j, hd, hj => by
    obtain ⟨j, rfl⟩ : ∃ m, j = m + 1 := ⟨j - 1, by omega⟩
    have hlt : i < l.length := by omega
    rw [PackBack.l1_eq, cond_dec, ints_len, if_pos (by omega), PackGet.s_ok _ _ _ (PackGet_spec h hk hw hb hlt (by omega) hx), if_pos (Int.natCast_nonneg _), get_nat l hlt]
    simp only
    rw [cond_bne, if_pos rfl, succ64 (by omega)]
    exact got_loop h hk hw hb hx hl d (i + 1) j (by omega) (by omega)
theorem PackBack_law (h : EqFnP C) (hA : EqFnA C) (H : EqH C) {k : Nat} (hk : big + 7 < k) {l : List Nat} {m : Nat} (hx : ∀ x, x ∈ l → x < 4294967296) (hm : m < 256) :
    C k 3 [.sl false (.ints .u32 (ints l)), .int .u8 (m : Int)] = some (.bool true, []) := by
  obtain ⟨k, rfl⟩ : ∃ m, k = m + 1 := ⟨k - 1, by omega⟩
  rw [hA.PackBack, PackBack.f_eq, Awake03.s_ok (Awake03_spec h H (by omega)), Bool.not_true, cond_false, cond_dec, ints_len]
  by_cases hl : l.length > 300
  · rw [if_pos (by omega), Awake03.s_ok (Awake03_spec h H (by omega))]
  · have hl' : l.length ≤ 300 := by omega
    rw [if_neg (by omega)]
    have c0 := copy_loop (C := C) k (m := (m : Int)) hx (by omega) l.length 0 k (by omega) (by unfold big at hk; omega)
    rw [List.take_zero] at c0
    refine Eq.trans c0 ?_
    have hw : width l ≤ 32 := width_le hx
    -- the width that is taken
    have main : ∀ w : Nat, w ≤ 32 → width l ≤ w → PackBack.e1 C k (w : Int) (ints l) = some (.bool true, []) := by
      intro w hw2 hww
      have hxw : ∀ x, x ∈ l → x < 2 ^ w := fun x hxl => Nat.lt_of_lt_of_le (width_ok hxl) (Nat.pow_le_pow_right (by omega) hww)
      obtain ⟨b, b1, b2⟩ := PackPut_spec h (k := k) (l := l) (w := w) (by omega) hw2 hxw (by omega)
      obtain ⟨o, o1, o2⟩ := PackWrite_spec h H (k := k) (l := l) (by omega) hx (by omega)
      have hmul : l.length * w ≤ l.length * 32 := Nat.mul_le_mul_left _ hw2
      have e1 : IntKind.i64.wrap ((IntKind.i64.wrap ((IntKind.i64.wrap ((l.length : Int) * (w : Int))) + 7)).tdiv 8) = (((l.length * w + 7) / 8 : Nat) : Int) := by
        have e2 : ((l.length * w : Nat) : Int) + 7 = ((l.length * w + 7 : Nat) : Int) := by omega
        rw [← Int.natCast_mul, w64 (x := ((l.length * w : Nat) : Int)) (by omega) (by omega), e2, w64 (x := ((l.length * w + 7 : Nat) : Int)) (by omega) (by omega), tdiv8, w64 (by omega) (by omega)]
      rw [PackBack.e1_eq, PackPut.q_ok _ _ b2, PackWrite.q_ok _ o2, cond_bne, if_pos rfl, cond_bne, if_pos rfl, ints_len, ints_len, e1, cond_bne, if_pos (by rw [b1.len])]
      refine Eq.trans (got_loop h (by omega) hw2 b1 hxw (by omega) l.length 0 k (by omega) (by unfold big at hk; omega)) ?_
      have ho : octets o := by
        obtain ⟨c, c1, rfl⟩ := o1
        intro x hx
        rcases List.mem_append.1 hx with hx | hx
        · exact vput_octets 8 l.length (by omega) x hx
        · rcases List.mem_cons.1 hx with rfl | hx
          · omega
          · exact c1.oct x hx
      have hol : o.length ≤ 3000 := by
        obtain ⟨c, c1, rfl⟩ := o1
        have := vput_len 8 l.length (by omega)
        have hm2 : l.length * width l ≤ l.length * 32 := Nat.mul_le_mul_left _ hw
        simp [c1.len]; omega
      have rd := read_written h H (k := k) (by omega) o1 hx (m := 300) hl' (by omega) [] [] (by simpa using ho) (by simp; omega)
      simp only [List.nil_append, List.append_nil, List.length_nil, Nat.zero_add] at rd
      have nw := CurNew_spec h H (k := k) (by omega) (b := ints o) (by rw [ints_len]; unfold bound; omega)
      have rd' : C k 22 [.pt [.sl false (.ints .u8 (ints o)), .int .i64 0, .int .i64 0], .int .i64 300] = some (.sl false (.ints .i64 (ints l)), [.pt [.sl false (.ints .u8 (ints o)), .int .i64 (o.length : Int), .int .i64 ((0 : Nat) : Int)]]) := rd
      have en := CurEnd_spec h (k := k) (by omega) (b := o) (a := o.length) (e := 0) (Nat.le_refl _) (by omega)
      rw [if_neg (by omega)] at en
      unfold numRes at en
      rw [PackBack.e2_eq, CurNew.q_ok _ nw, PackRead.q_ok _ _ _ _ rd', RefInts.s_ok _ _ (RefInts_spec h (by omega) (by omega)), decide_eq_true rfl, cond_true, CurEnd.q_ok _ _ _ en]
      rfl
    have e3 : (m : Int).tmod 3 = ((m % 3 : Nat) : Int) := rfl
    have e4 : (width l : Int) + ((m % 3 : Nat) : Int) = ((width l + m % 3 : Nat) : Int) := by omega
    rw [PackBack.e0_eq, Width.s_ok _ (Width_spec h (by omega) hx (by omega)), e3, w64 (x := ((m % 3 : Nat) : Int)) (by omega) (by omega), e4, w64 (by omega) (by omega), cond_dec]
    by_cases h3 : width l + m % 3 > 32
    · rw [if_pos (by omega)]
      exact main 32 (by omega) hw
    · rw [if_neg (by omega)]
      exact main _ (by omega) (by omega)
end Go.Proofs.Ytfkkigbbejhfbaa
