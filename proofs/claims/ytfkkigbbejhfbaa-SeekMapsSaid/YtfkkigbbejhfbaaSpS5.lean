/- Dictionaries opened: what the program's readers compute, as functions. -/
import Derived.Test.YtfkkigbbejhfbaaSpS4
namespace Go.Proofs.Ytfkkigbbejhfbaa
open Go Idl
set_option linter.unusedSimpArgs false
set_option linter.unusedVariables false
set_option maxRecDepth 100000
variable {C : Nat → CallF}

/-- Text: the string, and the state behind -/
def cText (b : List Nat) (a e : Nat) : List Nat × Nat × Nat :=
  ((cBytes b (cMost b a e 4096).2.1 (cMost b a e 4096).2.2 (cMost b a e 4096).1).1,
   if (cBytes b (cMost b a e 4096).2.1 (cMost b a e 4096).2.2 (cMost b a e 4096).1).2.2 = 0 then (cBytes b (cMost b a e 4096).2.1 (cMost b a e 4096).2.2 (cMost b a e 4096).1).2.1 else a,
   (cBytes b (cMost b a e 4096).2.1 (cMost b a e 4096).2.2 (cMost b a e 4096).1).2.2)
def strRes (b : List Nat) (r : List Nat × Nat × Nat) : Option (V × List V) :=
  some (.str (mk r.1), [.pt [.sl false (.ints .u8 (ints b)), .int .i64 (r.2.1 : Int), .int .i64 (r.2.2 : Int)]])
theorem cText_ok (b : List Nat) (a e : Nat) (ha : a ≤ b.length) (ho : octets b) : (cText b a e).2.1 ≤ b.length ∧ octets (cText b a e).1 ∧ (cText b a e).1.length ≤ 4096 := by
  obtain ⟨h1, h2⟩ := cMost_ok b a e 4096 ha
  obtain ⟨h3, h4⟩ := cBytes_ok b (cMost b a e 4096).2.1 (cMost b a e 4096).2.2 (cMost b a e 4096).1 h1
  refine ⟨?_, fun x hx => ho x (h4 x hx), ?_⟩
  · unfold cText; simp only; split
    · exact h3
    · exact ha
  · unfold cText cBytes; simp only
    split
    · split
      · simp
      · simp only [List.length_take]; omega
    · simp
theorem CurText_spec (h : EqFnS C) (hP : EqFnP C) (H : EqH C) {k : Nat} (hk : big + 2 < k) {b : List Nat} {a e : Nat} (ho : octets b) (ha : a ≤ b.length) (hb : b.length ≤ 1000000000) :
    C k 101 [.pt [.sl false (.ints .u8 (ints b)), .int .i64 (a : Int), .int .i64 (e : Int)]] = strRes b (cText b a e) := by
  obtain ⟨k, rfl⟩ : ∃ m, k = m + 1 := ⟨k - 1, by omega⟩
  have s1 := CurMost_spec hP (k := k) (by omega) ho ha hb (e := e) (m := 4096)
  rw [show ((4096 : Nat) : Int) = 4096 from rfl] at s1
  unfold numRes at s1
  obtain ⟨h1, h2⟩ := cMost_ok b a e 4096 ha
  have s2 := CurBytes_spec hP H (k := k) (by unfold big at hk; omega) h1 hb (e := (cMost b a e 4096).2.2) (n := (cMost b a e 4096).1) (by omega)
  rw [h.CurText, CurText.f_eq, CurMost.q_ok _ _ _ _ s1, CurBytes.q_ok _ _ _ _ s2, cond_bne, CurText.e0_eq, CurText.e0_eq, bytesStr_ints]
  unfold strRes cText
  simp only
  by_cases e0 : (cBytes b (cMost b a e 4096).2.1 (cMost b a e 4096).2.2 (cMost b a e 4096).1).2.2 = 0
  · rw [if_pos (by omega), if_pos e0]
  · rw [if_neg (by omega), if_neg e0]

/-! ### a block taken -/
def lastOf (out : List (List Nat)) : List Nat := out.getD (out.length - 1) []
def cTake (b : List Nat) (a0 size : Nat) : Nat → List (List Nat) → Nat → Nat → List (List Nat) × Nat × Nat
  | 0, out, a, e => (out, a, if e = 0 ∧ (a : Int) - (a0 : Int) ≠ (size : Int) then 3 else e)
  | d + 1, out, a, e =>
    if (cText b (cMost b a e (lastOf out).length).2.1 (cMost b a e (lastOf out).length).2.2).2.2 ≠ 0 then
      ([], (cText b (cMost b a e (lastOf out).length).2.1 (cMost b a e (lastOf out).length).2.2).2.1, (cText b (cMost b a e (lastOf out).length).2.1 (cMost b a e (lastOf out).length).2.2).2.2)
    else cTake b a0 size d (out ++ [(lastOf out).take (cMost b a e (lastOf out).length).1 ++ (cText b (cMost b a e (lastOf out).length).2.1 (cMost b a e (lastOf out).length).2.2).1])
      (cText b (cMost b a e (lastOf out).length).2.1 (cMost b a e (lastOf out).length).2.2).2.1
      (if lcp (lastOf out) ((lastOf out).take (cMost b a e (lastOf out).length).1 ++ (cText b (cMost b a e (lastOf out).length).2.1 (cMost b a e (lastOf out).length).2.2).1) = (cMost b a e (lastOf out).length).1 then 0 else 3)
def takeRes (b : List Nat) (r : List (List Nat) × Nat × Nat) : Option (V × List V) :=
  some (.sl true (.strs (strs r.1)), [.pt [.sl false (.ints .u8 (ints b)), .int .i64 (r.2.1 : Int), .int .i64 (r.2.2 : Int)]])
theorem lastOf_snoc (out : List (List Nat)) (s : List Nat) : lastOf (out ++ [s]) = s := by
  unfold lastOf
  rw [List.length_append, List.getD_eq_getElem?_getD]
  simp
theorem grow1 {n i : Nat} (h : n ≤ (i + 1) * 4096) : n ≤ (i + 1 + 1) * 4096 := Nat.le_trans h (Nat.mul_le_mul_right _ (Nat.le_succ _))
theorem grow2 {x y i : Nat} (h : x ≤ (i + 1) * 4096) (h2 : y ≤ 4096) : x + y ≤ (i + 1 + 1) * 4096 := by
  rw [Nat.succ_mul (i + 1) 4096]
  exact Nat.add_le_add h h2
set_option maxHeartbeats 1000000 in
theorem take_loop (h : EqFnS C) (hP : EqFnP C) (H : EqH C) {k : Nat} (hk : big + 3 < k) {b : List Nat} {a0 size : Nat} (ho : octets b) (ha0 : a0 ≤ b.length) (hb : b.length ≤ 1000000000) (n : Nat) (hn : n ≤ 100000) : ∀ (d i j : Nat) (out : List (List Nat)) (a e : Nat), i + d = n → d < j → out.length = i + 1 → octs out → (∀ s, s ∈ out → s.length ≤ (i + 1) * 4096) → a ≤ b.length →
    Taken.l0 C k j (size : Int) ((b.length - a0 : Nat) : Int) (n : Int) (i : Int) (ints b) (a : Int) (e : Int) (strs out) = takeRes b (cTake b a0 size d out a e) := by
  intro d
  induction d with
  | zero =>
    intro i j out a e hd hj hl hos hs ha
    obtain ⟨j, rfl⟩ : ∃ m, j = m + 1 := ⟨j - 1, by omega⟩
    have e1 : ((b.length - a0 : Nat) : Int) - ((b.length - a : Nat) : Int) = (a : Int) - (a0 : Int) := by omega
    rw [Taken.l0_eq, cond_dec, if_neg (by omega), Taken.e1_eq, CurLeft.q_ok _ _ _ (CurLeft_spec hP (by unfold big at hk; omega) (by rw [ints_len]; exact ha) (by rw [ints_len]; exact hb)), ints_len, e1, w64 (by omega) (by omega), cond_bne]
    unfold takeRes cTake
    by_cases hx : (a : Int) - (a0 : Int) = (size : Int)
    · rw [if_pos hx, Taken.e3_eq, if_neg (by rintro ⟨_, hy⟩; exact hy hx)]
    · rw [if_neg hx, CurFail.q_ok _ _ _ _ (CurFail_spec hP (by unfold big at hk; omega) ..), Taken.e3_eq]
      by_cases he : e = 0
      · rw [if_pos (by omega), if_pos ⟨he, hx⟩]; rfl
      · rw [if_neg (by omega), if_neg (by rintro ⟨hy, _⟩; exact he hy)]
  | succ d ih =>
    intro i j out a e hd hj hl hos hs ha
    obtain ⟨j, rfl⟩ : ∃ m, j = m + 1 := ⟨j - 1, by omega⟩
    have hlt : out.length - 1 < out.length := by omega
    have u := strs_get out hlt
    have hlast : lastOf out = out[out.length - 1] := strs_getD out hlt
    have ol := hos _ (List.getElem_mem hlt)
    have sl := hs _ (List.getElem_mem hlt)
    rw [← hlast] at u ol sl
    generalize hL : lastOf out = L at *
    have sm := CurMost_spec hP (k := k) (by omega) ho ha hb (e := e) (m := L.length)
    obtain ⟨m1, m2⟩ := cMost_ok b a e L.length ha
    unfold cTake
    rw [hL]
    generalize hM : cMost b a e L.length = M at *
    obtain ⟨m, a1, e1⟩ := M
    simp only at m1 m2 ⊢
    unfold numRes at sm
    simp only at sm
    have st := CurText_spec h hP H (k := k) (by omega) ho m1 hb (e := e1)
    obtain ⟨t1, t2, t3⟩ := cText_ok b a1 e1 m1 ho
    generalize hT : cText b a1 e1 = T at *
    obtain ⟨t, a2, e2⟩ := T
    simp only at t1 t2 t3 ⊢
    unfold strRes at st
    simp only at st
    have z : ((0 : Int)).toNat = 0 := rfl
    rw [Taken.l0_eq]
    simp (disch := omega) only [cond_dec, cond_beq, cond_bne, cond_true, cond_false, Bool.not_true, Bool.not_false, if_pos, if_neg, Int.toNat_natCast, eq_self, and_true, true_and, bound, w64, natS, natP, strs_len, u, size_mk, z]
    rw [CurMost.q_ok _ _ _ _ sm, if_pos (by omega), CurText.q_ok _ _ _ st, Int.toNat_natCast, mk_extract ol, List.drop_zero, size_mk, size_mk, if_pos (by rw [List.length_take]; omega), CurGood.q_ok _ _ _ (CurGood_spec hP (by unfold big at hk; omega) ..)]
    by_cases he : e2 = 0
    · subst he
      have b1 : (((0 : Nat) : Int) == 0) = true := rfl
      have os : octets (L.take m ++ t) := octets_append (octets_take ol m) t2
      rw [b1, Bool.not_true, cond_false, mk_append (octets_take ol m) t2, Shared.s_ok _ _ (Shared_spec h (by omega) ol os (by omega)), if_neg (by simp : ¬ (0 : Nat) ≠ 0)]
      have next : ∀ e' : Nat, Taken.e0 C k j (size : Int) ((b.length - a0 : Nat) : Int) (mk (L.take m ++ t)) (n : Int) (i : Int) (ints b) (a2 : Int) (e' : Int) (strs out) = takeRes b (cTake b a0 size d (out ++ [L.take m ++ t]) a2 e') := by
        intro e'
        rw [Taken.e0_eq]
        simp (disch := omega) only [cond_dec, cond_beq, cond_bne, cond_true, cond_false, Bool.not_true, Bool.not_false, if_pos, if_neg, Int.toNat_natCast, eq_self, and_true, true_and, bound, w64, natS, natP, strs_len, strs_one, strs_append, List.length_cons, List.length_nil]
        rw [Taken.e2_eq, succ64 (by omega)]
        refine ih (i + 1) j (out ++ [L.take m ++ t]) a2 e' (by omega) (by omega) (by rw [List.length_append]; simp; omega) ?_ ?_ t1
        · intro s hm
          rcases List.mem_append.1 hm with hm | hm
          · exact hos s hm
          · rw [List.mem_singleton] at hm; subst hm; exact os
        · intro s hm
          rcases List.mem_append.1 hm with hm | hm
          · exact grow1 (hs s hm)
          · rw [List.mem_singleton] at hm; subst hm
            rw [List.length_append]
            exact grow2 (Nat.le_trans (by rw [List.length_take]; exact Nat.min_le_right _ _) sl) t3
      by_cases hx : lcp L (L.take m ++ t) = m
      · rw [if_pos (by omega), next, if_pos hx]
      · rw [if_neg (by omega), CurFail.q_ok _ _ _ _ (CurFail_spec hP (by unfold big at hk; omega) ..), if_pos (by rfl)]
        rw [show (3 : Int) = ((3 : Nat) : Int) from rfl, next, if_neg hx]
    · have b1 : (((e2 : Nat) : Int) == 0) = false := by simp; omega
      rw [b1, Bool.not_false, cond_true, if_pos he]; rfl
def cTaken (b : List Nat) (a n size : Nat) : List (List Nat) × Nat × Nat := cTake b a size (n - 1) [(cText b a 0).1] (cText b a 0).2.1 (cText b a 0).2.2
theorem Taken_spec (h : EqFnS C) (hP : EqFnP C) (H : EqH C) {k : Nat} (hk : big + 4 < k) {b : List Nat} {a n size : Nat} (ho : octets b) (ha : a ≤ b.length) (hb : b.length ≤ 1000000000) (h1 : 1 ≤ n) (hn : n ≤ 100000) :
    C k 75 [.pt [.sl false (.ints .u8 (ints b)), .int .i64 (a : Int), .int .i64 0], .int .i64 (n : Int), .int .i64 (size : Int)] = takeRes b (cTaken b a n size) := by
  obtain ⟨k, rfl⟩ : ∃ m, k = m + 1 := ⟨k - 1, by omega⟩
  have st := CurText_spec h hP H (k := k) (by omega) ho ha hb (e := 0)
  obtain ⟨t1, t2, t3⟩ := cText_ok b a 0 ha ho
  unfold cTaken
  generalize hT : cText b a 0 = T at *
  obtain ⟨t, a2, e2⟩ := T
  simp only at t1 t2 t3 ⊢
  unfold strRes at st
  simp only at st
  rw [h.Taken, Taken.f_eq, CurLeft.q_ok _ _ _ (CurLeft_spec hP (by unfold big at hk; omega) (by rw [ints_len]; exact ha) (by rw [ints_len]; exact hb)), ints_len]
  have z : (0 : Int) = ((0 : Nat) : Int) := rfl
  have e1 : (n : Int) - 1 = ((n - 1 : Nat) : Int) := by omega
  conv => lhs; arg 4; rw [z]
  rw [CurText.q_ok _ _ _ st, e1, w64n (by omega), strs_one]
  exact take_loop h hP H (by omega) ho ha hb (n - 1) (by omega) (n - 1) 0 k [t] a2 e2 (by omega) (by unfold big at hk; omega) rfl (fun s hm => by rw [List.mem_singleton] at hm; subst hm; exact t2) (fun s hm => by rw [List.mem_singleton] at hm; subst hm; omega) t1
theorem cTake_ok {b : List Nat} {a0 size : Nat} (ho : octets b) : ∀ (d : Nat) (out : List (List Nat)) (a e B : Nat), a ≤ b.length → octs out → (∀ s, s ∈ out → s.length ≤ B) →
    (cTake b a0 size d out a e).2.1 ≤ b.length ∧ octs (cTake b a0 size d out a e).1 ∧ (cTake b a0 size d out a e).1.length ≤ out.length + d ∧ (∀ s, s ∈ (cTake b a0 size d out a e).1 → s.length ≤ B + d * 4096) := by
  intro d
  induction d with
  | zero => intro out a e B ha hos hs; exact ⟨ha, hos, Nat.le_refl _, fun s hm => by have := hs s hm; omega⟩
  | succ d ih =>
    intro out a e B ha hos hs
    have ol : octets (lastOf out) ∧ (lastOf out).length ≤ B ∨ lastOf out = [] := by
      unfold lastOf
      by_cases hx : out.length - 1 < out.length
      · rw [strs_getD out hx]; exact .inl ⟨hos _ (List.getElem_mem hx), hs _ (List.getElem_mem hx)⟩
      · rw [List.getD_eq_getElem?_getD, List.getElem?_eq_none (by omega)]; exact .inr rfl
    have ol1 : octets (lastOf out) := by
      rcases ol with hx | hx
      · exact hx.1
      · rw [hx]; intro x hx; cases hx
    have ol2 : (lastOf out).length ≤ B := by
      rcases ol with hx | hx
      · exact hx.2
      · rw [hx]; exact Nat.zero_le _
    obtain ⟨m1, m2⟩ := cMost_ok b a e (lastOf out).length ha
    obtain ⟨t1, t2, t3⟩ := cText_ok b (cMost b a e (lastOf out).length).2.1 (cMost b a e (lastOf out).length).2.2 m1 ho
    unfold cTake
    split
    · exact ⟨t1, fun s hm => (by cases hm), Nat.zero_le _, fun s hm => (by cases hm)⟩
    · obtain ⟨i1, i2, i3, i4⟩ := ih (out ++ [(lastOf out).take (cMost b a e (lastOf out).length).1 ++ (cText b (cMost b a e (lastOf out).length).2.1 (cMost b a e (lastOf out).length).2.2).1]) _ (if lcp (lastOf out) ((lastOf out).take (cMost b a e (lastOf out).length).1 ++ (cText b (cMost b a e (lastOf out).length).2.1 (cMost b a e (lastOf out).length).2.2).1) = (cMost b a e (lastOf out).length).1 then 0 else 3) (B + 4096) t1 (by
          intro s hm
          rcases List.mem_append.1 hm with hm | hm
          · exact hos s hm
          · rw [List.mem_singleton] at hm; subst hm; exact octets_append (octets_take ol1 _) t2) (by
          intro s hm
          rcases List.mem_append.1 hm with hm | hm
          · have := hs s hm; omega
          · rw [List.mem_singleton] at hm; subst hm
            rw [List.length_append, List.length_take]; omega)
      refine ⟨i1, i2, ?_, fun s hm => ?_⟩
      · rw [List.length_append] at i3; simp at i3; omega
      · have := i4 s hm; omega
theorem cTaken_ok {b : List Nat} {a n size : Nat} (ho : octets b) (ha : a ≤ b.length) (h1 : 1 ≤ n) (hn : n ≤ 64) :
    (cTaken b a n size).2.1 ≤ b.length ∧ octs (cTaken b a n size).1 ∧ (cTaken b a n size).1.length ≤ n ∧ (∀ s, s ∈ (cTaken b a n size).1 → s.length ≤ 262144) := by
  obtain ⟨t1, t2, t3⟩ := cText_ok b a 0 ha ho
  obtain ⟨i1, i2, i3, i4⟩ := cTake_ok (a0 := a) (size := size) ho (n - 1) [(cText b a 0).1] (cText b a 0).2.1 (cText b a 0).2.2 4096 t1 (fun s hm => by rw [List.mem_singleton] at hm; subst hm; exact t2) (fun s hm => by rw [List.mem_singleton] at hm; subst hm; exact t3)
  refine ⟨i1, i2, ?_, fun s hm => ?_⟩
  · have : ([(cText b a 0).1] : List (List Nat)).length = 1 := rfl
    rw [this] at i3
    unfold cTaken; omega
  · have := i4 s hm
    omega

/-! ### a dictionary opened -/
open Classical in
noncomputable def cOpenL (b : List Nat) (n block : Nat) : List Nat → Nat → Nat → List (List Nat) → List (List Nat) × Nat × Nat
  | [], i, a, l => if Rt l block then (l, a, 0) else ([], a, 3)
  | z :: r, i, a, l => if (cTaken b a (if n - i * block < block then n - i * block else block) z).2.2 ≠ 0 then ([], (cTaken b a (if n - i * block < block then n - i * block else block) z).2.1, (cTaken b a (if n - i * block < block then n - i * block else block) z).2.2)
    else cOpenL b n block r (i + 1) (cTaken b a (if n - i * block < block then n - i * block else block) z).2.1 (l ++ (cTaken b a (if n - i * block < block then n - i * block else block) z).1)
def dictRes (b : List Nat) (r : List (List Nat) × Nat × Nat) : Option (V × List V) :=
  some (.pv [.sl false (.strs (strs r.1))] 0, [.pt [.sl false (.ints .u8 (ints b)), .int .i64 (r.2.1 : Int), .int .i64 (r.2.2 : Int)]])
theorem octs_append {a b : List (List Nat)} (ha : octs a) (hb : octs b) : octs (a ++ b) := by
  intro x hx
  rcases List.mem_append.1 hx with h | h
  · exact ha x h
  · exact hb x h
set_option maxHeartbeats 1000000 in
theorem open_loop (h : EqFnS C) (hP : EqFnP C) (H : EqH C) {k : Nat} (hk : big + 5 < k) {b : List Nat} (ho : octets b) (hb : b.length ≤ 1000000000) {n block : Nat} (hn : n ≤ 4096) (b1 : 1 ≤ block) (b2 : block ≤ 64) {zs : List Nat} (hz : zs.length = (n + block - 1) / block) : ∀ (d i j : Nat) (a : Nat) (l : List (List Nat)), i + d = zs.length → d < j → a ≤ b.length → octs l → l.length ≤ i * 64 →
    FrontOpen.l0 C k j (n : Int) (block : Int) (ints zs) (zs.length : Int) (i : Int) (ints b) (a : Int) 0 (strs l) = dictRes b (cOpenL b n block (zs.drop i) i a l) := by
  intro d
  induction d with
  | zero =>
    intro i j a l hd hj ha hol hll
    obtain ⟨j, rfl⟩ : ∃ m, j = m + 1 := ⟨j - 1, by omega⟩
    obtain ⟨r, r1, r2⟩ := FrontRight_spec h (k := k) (by omega) hol (block : Int)
    rw [Int.toNat_natCast] at r1
    rw [FrontOpen.l0_eq, cond_dec, if_neg (by omega), FrontOpen.e0_eq, FrontRight.s_ok _ _ r2, List.drop_of_length_le (by omega), cOpenL]
    have hk0 : 0 < k := by unfold big at hk; omega
    cases r with
    | true =>
      rw [if_pos (r1.1 rfl), Bool.not_true, cond_false, FrontOpen.e1_eq, CurGood.q_ok _ _ _ (CurGood_spec hP hk0 ..)]; rfl
    | false =>
      rw [if_neg (fun hx => by have := r1.2 hx; cases this), Bool.not_false, cond_true, CurFail.q_ok _ _ _ _ (CurFail_spec hP hk0 ..), FrontOpen.e1_eq, CurGood.q_ok _ _ _ (CurGood_spec hP hk0 ..)]; rfl
  | succ d ih =>
    intro i j a l hd hj ha hol hll
    obtain ⟨j, rfl⟩ : ∃ m, j = m + 1 := ⟨j - 1, by omega⟩
    have hi : i < zs.length := by omega
    have hq : i * block < n := by
      have h1 : i + 1 ≤ (n + block - 1) / block := by omega
      have h2 := (Nat.le_div_iff_mul_le (by omega)).1 h1
      rw [Nat.add_mul] at h2; omega
    have hib : i * block ≤ 4096 := by omega
    have hzl : (n + block - 1) / block ≤ n := div_up_le (by omega) n
    have hi4 : i < 4096 := by omega
    have em : (i : Int) * (block : Int) = ((i * block : Nat) : Int) := by norm_cast
    have es : (n : Int) - ((i * block : Nat) : Int) = ((n - i * block : Nat) : Int) := by omega
    have eif : (if ((n - i * block : Nat) : Int) < (block : Int) then ((n - i * block : Nat) : Int) else (block : Int)) = ((if n - i * block < block then n - i * block else block : Nat) : Int) := by split <;> split <;> omega
    have cnt : 1 ≤ (if n - i * block < block then n - i * block else block) ∧ (if n - i * block < block then n - i * block else block) ≤ 64 := by split <;> omega
    have tk := Taken_spec h hP H (k := k) (by omega) ho ha hb cnt.1 (by omega) (size := zs.getD i 0)
    obtain ⟨k1, k2, k3, k4⟩ := cTaken_ok (size := zs.getD i 0) ho ha cnt.1 cnt.2
    rw [FrontOpen.l0_eq, cond_dec, if_pos (by omega), if_pos (Int.natCast_nonneg _), get_nat zs hi]
    simp only
    rw [em, w64n (by omega), es, w64n (by omega), eif, List.drop_eq_getElem_cons hi, cOpenL, ← getD_get hi]
    generalize (if n - i * block < block then n - i * block else block) = cn at *
    generalize zs.getD i 0 = z at *
    generalize hT : cTaken b a cn z = T at *
    obtain ⟨t, a2, e2⟩ := T
    simp only at k1 k2 k3 k4 ⊢
    unfold takeRes at tk
    simp only at tk
    rw [Taken.q_ok _ _ _ _ _ tk, strs_append, strs_len, strs_len, if_pos ⟨by unfold bound; omega, by trivial⟩, CurGood.q_ok _ _ _ (CurGood_spec hP (by unfold big at hk; omega) ..)]
    by_cases he : e2 = 0
    · subst he
      have b1 : (((0 : Nat) : Int) == 0) = true := rfl
      rw [b1, Bool.not_true, cond_false, if_neg (by simp), succ64 (by omega)]
      exact ih (i + 1) j a2 (l ++ t) (by omega) (by omega) k1 (octs_append hol k2) (by rw [List.length_append]; omega)
    · have b1 : (((e2 : Nat) : Int) == 0) = false := by simp; omega
      rw [b1, Bool.not_false, cond_true, if_pos he]; rfl
/-- Open: the strings, and the state behind -/
noncomputable def cOpen (b : List Nat) (a : Nat) (R : List Nat × Nat × Nat) (n block : Nat) : List (List Nat) × Nat × Nat :=
  if block = 0 ∨ R.1.length ≠ (n + block - 1) / block then ([], R.2.1, if R.2.2 = 0 then 3 else R.2.2)
  else if R.2.2 ≠ 0 then ([], R.2.1, R.2.2)
  else cOpenL b n block R.1 0 R.2.1 []
set_option maxHeartbeats 1000000 in
theorem FrontOpen_spec (h : EqFnS C) (hP : EqFnP C) (H : EqH C) {k : Nat} (hk : big + 6 < k) {b : List Nat} {a n a1 e1 block a2 e2 : Nat} {zs : List Nat} {a3 e3 : Nat} (ho : octets b) (ha : a ≤ b.length) (hb : b.length ≤ 1000000000)
    (h1 : cMost b a 0 4096 = (n, a1, e1)) (h2 : cMost b a1 e1 64 = (block, a2, e2)) (h3 : C (k - 1) 22 [.pt [.sl false (.ints .u8 (ints b)), .int .i64 (a2 : Int), .int .i64 (e2 : Int)], .int .i64 4096] = readRes zs b a3 e3) (ha3 : a3 ≤ b.length) (he3 : e3 ≠ 0 → zs = []) :
    C k 30 [.pt [.sl false (.ints .u8 (ints b)), .int .i64 (a : Int), .int .i64 0]] = dictRes b (cOpen b a (zs, a3, e3) n block) := by
  obtain ⟨k, rfl⟩ : ∃ m, k = m + 1 := ⟨k - 1, by omega⟩
  rw [show k + 1 - 1 = k by omega] at h3
  have s1 := CurMost_spec hP (k := k) (by omega) ho ha hb (e := 0) (m := 4096)
  obtain ⟨m1, m2⟩ := cMost_ok b a 0 4096 ha
  rw [h1] at s1 m1 m2
  have s2 := CurMost_spec hP (k := k) (by omega) ho m1 hb (e := e1) (m := 64)
  obtain ⟨m3, m4⟩ := cMost_ok b a1 e1 64 m1
  rw [h2] at s2 m3 m4
  unfold numRes at s1 s2
  simp only at s1 s2 m1 m2 m3 m4
  unfold readRes at h3
  have z0 : ((0 : Nat) : Int) = 0 := rfl
  have z1 : ((4096 : Nat) : Int) = 4096 := rfl
  have z2 : ((64 : Nat) : Int) = 64 := rfl
  rw [z0, z1] at s1
  rw [z2] at s2
  have hk0 : 0 < k := by omega
  have fail : ∀ e : Nat, (if (e : Int) = 0 then (3 : Int) else (e : Int)) = ((if e = 0 then 3 else e : Nat) : Int) := by intro e; split <;> split <;> omega
  rw [h.FrontOpen, FrontOpen.f_eq, CurMost.q_ok _ _ _ _ s1, CurMost.q_ok _ _ _ _ s2, PackRead.q_ok _ _ _ _ h3, cond_beq, ints_len]
  unfold cOpen
  simp only
  by_cases hb0 : block = 0
  · rw [if_pos (by omega), CurFail.q_ok _ _ _ _ (CurFail_spec hP hk0 ..), fail, if_pos (show block = 0 ∨ zs.length ≠ (n + block - 1) / block from .inl hb0)]; rfl
  · have e1' : (n : Int) + (block : Int) = ((n + block : Nat) : Int) := by omega
    have e2' : ((n + block : Nat) : Int) - 1 = ((n + block - 1 : Nat) : Int) := by omega
    have hdv : (n + block - 1) / block ≤ n := div_up_le (by omega) n
    rw [if_neg (by omega), if_neg (by omega), e1', w64n (by omega), e2', w64n (by omega), tdiv_nat', w64n (by omega), cond_bne]
    by_cases hl : zs.length = (n + block - 1) / block
    · rw [if_pos (by omega), if_neg (by rintro (hx | hx); exact hb0 hx; exact hx hl)]
      by_cases he : e3 = 0
      · subst he
        rw [if_neg (by simp : ¬ ((0 : Nat) ≠ 0))]
        have := open_loop h hP H (k := k) (by omega) ho hb (n := n) (block := block) m2 (by omega) m4 hl zs.length 0 k a3 [] (by omega) (by unfold big at hk; omega) ha3 (fun s hs => by cases hs) (by simp)
        rw [List.drop_zero] at this
        exact this
      · have hz := he3 he
        subst hz
        have hn0 : n = 0 := by
          rcases Nat.eq_zero_or_pos n with hx | hx
          · exact hx
          · have h5 : 1 ≤ (n + block - 1) / block := (Nat.le_div_iff_mul_le (by omega)).2 (by omega)
            rw [← hl] at h5; simp at h5
        rw [if_pos he]
        obtain ⟨k', rfl⟩ : ∃ m, k = m + 1 := ⟨k - 1, by omega⟩
        obtain ⟨r, r1, r2⟩ := FrontRight_spec h (k := k' + 1) (l := []) (by omega) (fun s hs => by cases hs) (block : Int)
        rw [Int.toNat_natCast] at r1
        have hr : r = true := r1.2 ⟨by omega, m4, by simp, fun s hs => (by cases hs), fun i h0 hi => (by simp at hi)⟩
        subst hr
        rw [FrontOpen.l0_eq, cond_dec, if_neg (by simp), FrontOpen.e0_eq]
        have r2' : C (k' + 1) 69 [.sl false (.strs ([] : List ByteArray)), .int .i64 (block : Int)] = some (.bool true, []) := r2
        rw [FrontRight.s_ok _ _ r2', Bool.not_true, cond_false, FrontOpen.e1_eq, CurGood.q_ok _ _ _ (CurGood_spec hP hk0 ..)]
        have b1 : (((e3 : Nat) : Int) == 0) = false := by simp; omega
        rw [b1, Bool.not_false, cond_true]; rfl
    · rw [if_neg (by omega), CurFail.q_ok _ _ _ _ (CurFail_spec hP hk0 ..), fail, if_pos (show block = 0 ∨ zs.length ≠ (n + block - 1) / block from .inr hl)]; rfl
end Go.Proofs.Ytfkkigbbejhfbaa
