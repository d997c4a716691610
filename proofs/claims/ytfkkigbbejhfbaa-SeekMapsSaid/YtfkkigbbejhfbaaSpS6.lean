/- What is read is what stands there, and what stands there is read. -/
import Derived.Test.YtfkkigbbejhfbaaSpS5
namespace Go.Proofs.Ytfkkigbbejhfbaa
open Go Idl
set_option linter.unusedSimpArgs false
set_option linter.unusedVariables false
set_option maxRecDepth 100000
variable {C : Nat → CallF}

/-- between two places of some bytes stands this -/
structure Eat (b : List Nat) (a a' : Nat) (x : List Nat) : Prop where
  at_ : b.drop a = x ++ b.drop a'
  end_ : a' = a + x.length
  in_ : a' ≤ b.length
theorem Eat.trans {b : List Nat} {a a1 a2 : Nat} {x y : List Nat} (h : Eat b a a1 x) (g : Eat b a1 a2 y) : Eat b a a2 (x ++ y) :=
  ⟨by rw [h.at_, g.at_, List.append_assoc], by rw [g.end_, h.end_, List.length_append]; omega, g.in_⟩
theorem Eat.nil {b : List Nat} {a : Nat} (h : a ≤ b.length) : Eat b a a [] := ⟨rfl, rfl, h⟩
theorem Eat.part {b : List Nat} {a a2 : Nat} {x y : List Nat} (h : Eat b a a2 (x ++ y)) : Eat b a (a + x.length) x ∧ Eat b (a + x.length) a2 y := by
  have he := h.end_
  rw [List.length_append] at he
  have e1 : b.drop (a + x.length) = y ++ b.drop a2 := by
    rw [← List.drop_drop, h.at_, List.append_assoc, List.drop_left]
  exact ⟨⟨by rw [e1, h.at_, List.append_assoc], rfl, by have := h.in_; omega⟩, ⟨e1, by omega, h.in_⟩⟩
theorem Eat.start {b : List Nat} {a a' : Nat} {x : List Nat} (h : Eat b a a' x) : a ≤ b.length := by have := h.end_; have := h.in_; omega
theorem eat_take {b : List Nat} {a n : Nat} (h : a + n ≤ b.length) : Eat b a (a + n) ((b.drop a).take n) :=
  ⟨by rw [← List.drop_drop, List.take_append_drop], by rw [List.length_take, List.length_drop]; omega, h⟩
theorem vnum_sound : ∀ (l : List Nat) (i x n m : Nat), octets l → vnum l i x = .ok (n, m) → ∃ y rest, l = vput y ++ rest ∧ m = i + (vput y).length ∧ n = x ||| (y <<< (7 * i)) ∧ (0 < i → 0 < y)
  | [], i, x, n, m, _, h => by simp [vnum] at h
  | c :: r, i, x, n, m, ho, h => by
    have hc : c < 256 := ho c (by simp)
    unfold vnum at h
    split at h
    · cases h
    · rename_i h9
      split at h
      · rename_i h128
        split at h
        · cases h
        · rename_i h0
          simp only [Except.ok.injEq, Prod.mk.injEq] at h
          obtain ⟨h1, h2⟩ := h
          refine ⟨c, r, by rw [vput_small h128]; rfl, by rw [vput_small h128]; simp; omega, by rw [← h1, Nat.mod_eq_of_lt h128], fun hi => ?_⟩
          rcases Nat.eq_zero_or_pos c with hz | hz
          · exact absurd ⟨hz, hi⟩ h0
          · exact hz
      · rename_i h128
        obtain ⟨y, rest, e1, e2, e3, e4⟩ := vnum_sound r (i + 1) _ n m (fun x hx => ho x (by simp [hx])) h
        have hy := e4 (by omega)
        have hge : ¬ (y * 128 + c % 128 < 128) := by omega
        refine ⟨y * 128 + c % 128, rest, ?_, ?_, ?_, fun _ => by omega⟩
        · rw [vput_great hge, show (y * 128 + c % 128) % 128 + 128 = c by omega, show (y * 128 + c % 128) / 128 = y by omega, e1]; rfl
        · rw [vput_great hge, show (y * 128 + c % 128) / 128 = y by omega, e2, List.length_cons]; omega
        · rw [e3, Nat.or_assoc]
          congr 1
          have e6 : y * 128 + c % 128 = y <<< 7 ||| c % 128 := by
            rw [← Nat.shiftLeft_add_eq_or_of_lt (by omega : c % 128 < 2 ^ 7), Nat.shiftLeft_eq]
          rw [e6, Nat.shiftLeft_or_distrib, ← Nat.shiftLeft_add, Nat.or_comm, show 7 + 7 * i = 7 * (i + 1) by omega]
theorem num_sound {b : List Nat} {a e n a' : Nat} (ho : octets b) (ha : a ≤ b.length) (h : cNumber b a e = (n, a', 0)) : e = 0 ∧ Eat b a a' (vput n) ∧ n < 2 ^ 63 := by
  have h3 := (cNumber_ok b a e ha)
  rw [h] at h3
  unfold cNumber at h
  split at h
  · rename_i he
    cases hv : vnum (b.drop a) 0 0 with
    | error x =>
      rw [hv] at h
      simp only [numEnd, Prod.mk.injEq] at h
      rcases vnum_err _ _ _ _ hv with hx | hx <;> omega
    | ok p =>
      obtain ⟨y, m⟩ := p
      rw [hv] at h
      simp only [numEnd, Prod.mk.injEq] at h
      obtain ⟨h1, h2, _⟩ := h
      obtain ⟨z, rest, e1, e2, e3, _⟩ := vnum_sound _ _ _ _ _ (octets_drop ho a) hv
      have ez : z = n := by rw [← h1, e3]; simp
      subst ez
      refine ⟨he, ⟨?_, by omega, h3.1⟩, h3.2.2⟩
      rw [← h2, e2, Nat.zero_add, ← List.drop_drop, e1, List.drop_left]
  · rename_i he
    simp only [Prod.mk.injEq] at h
    exact absurd h.2.2 he
theorem num_complete {b : List Nat} {a n a' : Nat} (hn : n < 128 ^ 9) (h : Eat b a a' (vput n)) : cNumber b a 0 = (n, a', 0) := by
  have hs := h.start
  have e1 : b = b.take a ++ (vput n ++ b.drop a') := by rw [← h.at_, List.take_append_drop]
  have := cNumber_put hn (b.take a) (b.drop a')
  rw [← e1, List.length_take, Nat.min_eq_left hs] at this
  rw [this, h.end_]
theorem most_sound {b : List Nat} {a e m n a' : Nat} (ho : octets b) (ha : a ≤ b.length) (h : cMost b a e m = (n, a', 0)) : e = 0 ∧ Eat b a a' (vput n) ∧ n ≤ m := by
  unfold cMost at h
  split at h
  · simp only [Prod.mk.injEq] at h; omega
  · rename_i hm
    obtain ⟨h1, h2, _⟩ := num_sound ho ha h
    exact ⟨h1, h2, by rw [h] at hm; simpa using hm⟩
theorem most_complete {b : List Nat} {a m n a' : Nat} (hn : n < 128 ^ 9) (hm : n ≤ m) (h : Eat b a a' (vput n)) : cMost b a 0 m = (n, a', 0) := by
  unfold cMost
  rw [num_complete hn h, if_neg (by simp only; omega)]
theorem bytes_sound {b : List Nat} {a e n a' : Nat} {p : List Nat} (ha : a ≤ b.length) (h : cBytes b a e n = (p, a', 0)) : e = 0 ∧ Eat b a a' p ∧ p.length = n := by
  unfold cBytes at h
  split at h
  · rename_i he
    split at h
    · simp at h
    · rename_i hl
      simp only [Prod.mk.injEq] at h
      obtain ⟨rfl, rfl, _⟩ := h
      exact ⟨he, eat_take (by omega), by rw [List.length_take, List.length_drop]; omega⟩
  · rename_i he
    simp only [Prod.mk.injEq] at h
    exact absurd h.2.2 he
theorem bytes_complete {b : List Nat} {a a' : Nat} {p : List Nat} (h : Eat b a a' p) : cBytes b a 0 p.length = (p, a', 0) := by
  have h1 := h.end_
  have h2 := h.in_
  unfold cBytes
  rw [if_pos rfl, if_neg (by omega), h.at_, List.take_left, h1]
theorem text_sound {b : List Nat} {a e a' : Nat} {t : List Nat} (ho : octets b) (ha : a ≤ b.length) (h : cText b a e = (t, a', 0)) : e = 0 ∧ Eat b a a' (vtext t) ∧ t.length ≤ 4096 := by
  unfold cText at h
  simp only [Prod.mk.injEq] at h
  obtain ⟨h1, h2, h3⟩ := h
  rw [if_pos h3] at h2
  have hb : cBytes b (cMost b a e 4096).2.1 (cMost b a e 4096).2.2 (cMost b a e 4096).1 = (t, a', 0) := by
    rw [← h1, ← h2]; exact Prod.ext rfl (Prod.ext rfl h3)
  obtain ⟨g1, g2⟩ := cMost_ok b a e 4096 ha
  obtain ⟨b1, b2, b3⟩ := bytes_sound g1 hb
  have hm : cMost b a e 4096 = ((cMost b a e 4096).1, (cMost b a e 4096).2.1, 0) := Prod.ext rfl (Prod.ext rfl b1)
  obtain ⟨m1, m2, m3⟩ := most_sound ho ha hm
  refine ⟨m1, ?_, by omega⟩
  unfold vtext
  rw [b3]
  exact m2.trans b2
theorem text_complete {b : List Nat} {a a' : Nat} {t : List Nat} (ht : t.length ≤ 4096) (h : Eat b a a' (vtext t)) : cText b a 0 = (t, a', 0) := by
  obtain ⟨h1, h2⟩ := h.part
  unfold cText
  rw [most_complete (by omega) ht h1]
  simp only
  rw [bytes_complete h2]
  simp
theorem take_sound {b : List Nat} {a0 size : Nat} (ho : octets b) : ∀ (d : Nat) (out : List (List Nat)) (a e : Nat) (out' : List (List Nat)) (a' : Nat), a ≤ b.length → cTake b a0 size d out a e = (out', a', 0) →
    e = 0 ∧ ∃ r, out' = out ++ r ∧ r.length = d ∧ Eat b a a' (ents (lastOf out) r) ∧ (a' : Int) - (a0 : Int) = (size : Int)
  | 0, out, a, e, out', a', ha, h => by
    unfold cTake at h
    simp only [Prod.mk.injEq] at h
    obtain ⟨rfl, rfl, h3⟩ := h
    split at h3
    · cases h3
    · rename_i hx
      refine ⟨h3, [], by simp, rfl, Eat.nil ha, ?_⟩
      by_cases hz : (a : Int) - (a0 : Int) = (size : Int)
      · exact hz
      · exact absurd ⟨h3, hz⟩ hx
  | d + 1, out, a, e, out', a', ha, h => by
    obtain ⟨m1, m2⟩ := cMost_ok b a e (lastOf out).length ha
    unfold cTake at h
    generalize hL : lastOf out = L at *
    generalize hM : cMost b a e L.length = M at *
    obtain ⟨m, a1, e1⟩ := M
    simp only at m1 m2 h
    obtain ⟨t1, t2, t3⟩ := cText_ok b a1 e1 m1 ho
    generalize hT : cText b a1 e1 = T at *
    obtain ⟨t, a2, e2⟩ := T
    simp only at t1 t2 t3 h
    split at h
    · simp only [Prod.mk.injEq] at h
      rename_i he
      exact absurd h.2.2 he
    · rename_i he
      have he2 : e2 = 0 := by simpa using he
      subst he2
      obtain ⟨c1, r, r1, r2, r3, r4⟩ := take_sound ho d _ a2 _ out' a' t1 h
      have hlcp : lcp L (L.take m ++ t) = m := by
        by_cases hx : lcp L (L.take m ++ t) = m
        · exact hx
        · rw [if_neg hx] at c1; cases c1
      obtain ⟨x1, x2, x3⟩ := text_sound ho m1 hT
      subst x1
      obtain ⟨y1, y2, y3⟩ := most_sound ho ha hM
      refine ⟨y1, (L.take m ++ t) :: r, by rw [r1]; simp, by simp [r2], ?_, r4⟩
      rw [lastOf_snoc] at r3
      rw [ents, hlcp]
      have e3 : (L.take m ++ t).drop m = t := by rw [List.drop_left' (by rw [List.length_take]; omega)]
      rw [e3]
      exact y2.trans (x2.trans r3)
theorem take_complete {b : List Nat} {a0 size : Nat} : ∀ (r out : List (List Nat)) (a a' : Nat), (lastOf out).length ≤ 4096 → (∀ s, s ∈ r → s.length ≤ 4096) → Eat b a a' (ents (lastOf out) r) → (a' : Int) - (a0 : Int) = (size : Int) →
    cTake b a0 size r.length out a 0 = (out ++ r, a', 0)
  | [], out, a, a', hl, hs, he, hz => by
    have := he.end_
    simp [ents] at this
    subst this
    unfold cTake
    simp [hz]
  | s :: r, out, a, a', hl, hs, he, hz => by
    have hle := lcp_le (lastOf out) s
    have hss := hs s (by simp)
    unfold ents at he
    obtain ⟨h1, h2⟩ := he.part
    obtain ⟨h3, h4⟩ := h2.part
    have c1 := most_complete (m := (lastOf out).length) (by omega) hle.1 h1
    have c2 := text_complete (by rw [List.length_drop]; omega) h3
    have e1 : (lastOf out).take (lcp (lastOf out) s) ++ s.drop (lcp (lastOf out) s) = s := by rw [lcp_take, List.take_append_drop]
    rw [List.length_cons, cTake, c1]
    simp only
    rw [c2]
    simp only
    rw [if_neg (by simp), e1, if_pos rfl, take_complete r (out ++ [s]) _ a' (by rw [lastOf_snoc]; exact hss) (fun s hs' => hs s (by simp [hs'])) (by rw [lastOf_snoc]; exact h4) hz]
    simp
theorem taken_sound {b : List Nat} {a n size a' : Nat} {c : List (List Nat)} (ho : octets b) (ha : a ≤ b.length) (hn : 1 ≤ n) (h : cTaken b a n size = (c, a', 0)) : c.length = n ∧ Eat b a a' (blk c) ∧ (blk c).length = size := by
  unfold cTaken at h
  obtain ⟨t1, t2, t3⟩ := cText_ok b a 0 ha ho
  generalize hT : cText b a 0 = T at *
  obtain ⟨t, a2, e2⟩ := T
  simp only at t1 t2 t3 h
  obtain ⟨c1, r, r1, r2, r3, r4⟩ := take_sound ho (n - 1) _ a2 _ c a' t1 h
  subst c1
  obtain ⟨x1, x2, x3⟩ := text_sound ho ha hT
  have el : lastOf [t] = t := rfl
  rw [el] at r3
  have hb : blk c = vtext t ++ ents t r := by rw [r1]; rfl
  have he : Eat b a a' (blk c) := by rw [hb]; exact x2.trans r3
  refine ⟨by rw [r1]; simp; omega, he, ?_⟩
  have := he.end_
  omega
theorem taken_complete {b : List Nat} {a a' : Nat} {c : List (List Nat)} (hc : c ≠ []) (hs : ∀ s, s ∈ c → s.length ≤ 4096) (h : Eat b a a' (blk c)) : cTaken b a c.length (blk c).length = (c, a', 0) := by
  cases c with
  | nil => exact absurd rfl hc
  | cons s r =>
    have hz := h.end_
    unfold blk at h
    obtain ⟨h1, h2⟩ := h.part
    unfold cTaken
    rw [text_complete (hs s (by simp)) h1]
    simp only
    have := take_complete (a0 := a) (size := (blk (s :: r)).length) r [s] _ a' (hs s (by simp)) (fun s hs' => hs s (by simp [hs'])) h2 (by omega)
    rw [List.length_cons, Nat.add_sub_cancel, this]; rfl

/-! ### parts -/
theorem chunks_of {α : Type} {k : Nat} (hk : 0 < k) : ∀ (cs : List (List α)) (n : Nat), (∀ j, j < cs.length → (cs.getD j []).length = (if n - j * k < k then n - j * k else k)) → cs.length = (n + k - 1) / k → cs.flatten.length = n ∧ chunks k cs.flatten = cs
  | [], n, h, hl => by
    rcases Nat.eq_zero_or_pos n with hx | hx
    · subst hx; exact ⟨rfl, chunks_nil k⟩
    · have h5 : 1 ≤ (n + k - 1) / k := (Nat.le_div_iff_mul_le hk).2 (by omega)
      rw [← hl] at h5; simp at h5
  | c :: cs, n, h, hl => by
    have h0 := h 0 (by simp)
    simp only [List.getD_cons_zero, Nat.zero_mul, Nat.sub_zero] at h0
    have hn : 0 < n := by
      rcases Nat.eq_zero_or_pos n with hx | hx
      · subst hx; rw [Nat.div_eq_of_lt (by omega)] at hl; simp at hl
      · exact hx
    by_cases hlt : n ≤ k
    · have hcl : c.length = n := by rw [h0]; split <;> omega
      have hd : (n + k - 1) / k = 1 := by rw [show n + k - 1 = (n - 1) + k by omega, Nat.add_div_right _ hk, Nat.div_eq_of_lt (by omega)]
      rw [hd] at hl
      have hcs : cs = [] := List.eq_nil_of_length_eq_zero (by simpa using hl)
      subst hcs
      have hc : c ≠ [] := fun e => by rw [e] at hcl; simp at hcl; omega
      simp only [List.flatten_cons, List.flatten_nil, List.append_nil]
      exact ⟨hcl, by rw [chunks_more hk hc, List.take_of_length_le (by omega), List.drop_of_length_le (by omega), chunks_nil]⟩
    · have hcl : c.length = k := by rw [h0, if_neg (by omega)]
      have hd : (n + k - 1) / k = (n - k + k - 1) / k + 1 := by
        have e9 : n + k - 1 = (n - k + k - 1) + k := by omega
        rw [e9, Nat.add_div_right _ hk]
      have ih := chunks_of hk cs (n - k) (fun j hj => by
        have := h (j + 1) (by simp; omega)
        rw [List.getD_cons_succ, Nat.succ_mul] at this
        rw [this, show n - (j * k + k) = n - k - j * k by omega]) (by rw [List.length_cons, hd] at hl; exact Nat.succ.inj hl)
      have hc : c ++ cs.flatten ≠ [] := fun e => by
        have := congrArg List.length e
        rw [List.length_append, List.length_nil] at this; omega
      rw [List.flatten_cons]
      exact ⟨by rw [List.length_append, ih.1]; omega, by rw [chunks_more hk hc, List.take_left' hcl, List.drop_left' hcl, ih.2]⟩
theorem chunks_size {α : Type} {k : Nat} (hk : 0 < k) : ∀ (n : Nat) (l : List α), l.length ≤ n → ∀ j, j < (chunks k l).length → ((chunks k l).getD j []).length = (if l.length - j * k < k then l.length - j * k else k)
  | 0, l, hl, j, hj => by
    obtain rfl : l = [] := List.eq_nil_of_length_eq_zero (by omega)
    rw [chunks_nil] at hj; cases hj
  | n + 1, l, hl, j, hj => by
    by_cases h0 : l = []
    · subst h0; rw [chunks_nil] at hj; cases hj
    · have hp : 0 < l.length := List.length_pos_iff.2 h0
      rw [chunks_more hk h0] at hj ⊢
      cases j with
      | zero => rw [List.getD_cons_zero, List.length_take, Nat.zero_mul]; split <;> omega
      | succ j =>
        rw [List.getD_cons_succ, chunks_size hk n (l.drop k) (by rw [List.length_drop]; omega) j (by simpa using hj), List.length_drop, Nat.succ_mul, show l.length - k - j * k = l.length - (j * k + k) by omega]
theorem openL_sound {b : List Nat} {n block : Nat} (ho : octets b) (hb : 1 ≤ block) (hb2 : block ≤ 64) : ∀ (zs : List Nat) (i a : Nat) (l l' : List (List Nat)) (a' : Nat), (∀ j, j < zs.length → (i + j) * block < n) → a ≤ b.length → octs l → cOpenL b n block zs i a l = (l', a', 0) →
    ∃ cs : List (List (List Nat)), cs.length = zs.length ∧ l' = l ++ cs.flatten ∧ (∀ j, j < cs.length → (cs.getD j []).length = (if n - (i + j) * block < block then n - (i + j) * block else block)) ∧ cs.map (fun c => (blk c).length) = zs ∧ Eat b a a' ((cs.map blk).flatten) ∧ Rt l' block ∧ octs l'
  | [], i, a, l, l', a', hq, ha, hol, h => by
    unfold cOpenL at h
    split at h
    · rename_i hr
      simp only [Prod.mk.injEq] at h
      obtain ⟨rfl, rfl, _⟩ := h
      exact ⟨[], rfl, by simp, fun j hj => (by cases hj), rfl, Eat.nil ha, hr, hol⟩
    · simp at h
  | z :: r, i, a, l, l', a', hq, ha, hol, h => by
    have h00 := hq 0 (by simp)
    rw [Nat.add_zero] at h00
    have cnt : 1 ≤ (if n - i * block < block then n - i * block else block) ∧ (if n - i * block < block then n - i * block else block) ≤ 64 := by split <;> omega
    obtain ⟨k1, k2, k3, k4⟩ := cTaken_ok (size := z) ho ha cnt.1 cnt.2
    unfold cOpenL at h
    generalize hcn : (if n - i * block < block then n - i * block else block) = cn at *
    generalize hT : cTaken b a cn z = T at *
    obtain ⟨t, a2, e2⟩ := T
    simp only at k1 k2 k3 k4 h
    split at h
    · simp only [Prod.mk.injEq] at h
      rename_i he
      exact absurd h.2.2 he
    · rename_i he
      have he2 : e2 = 0 := by simpa using he
      subst he2
      obtain ⟨cs, c1, c2, c3, c4, c5, c6, c7⟩ := openL_sound ho hb hb2 r (i + 1) a2 (l ++ t) l' a' (fun j hj => by
        have := hq (j + 1) (by simp; omega)
        rwa [show i + 1 + j = i + (j + 1) by omega]) k1 (octs_append hol k2) h
      obtain ⟨s1, s2, s3⟩ := taken_sound ho ha cnt.1 hT
      refine ⟨t :: cs, by simp [c1], by rw [c2]; simp, fun j hj => ?_, by simp [c4, s3], ?_, c6, c7⟩
      · cases j with
        | zero => rw [List.getD_cons_zero, Nat.add_zero, hcn, s1]
        | succ j => rw [List.getD_cons_succ, show i + (j + 1) = i + 1 + j by omega]; exact c3 j (by simpa using hj)
      · rw [List.map_cons, List.flatten_cons]; exact s2.trans c5
theorem openL_complete {b : List Nat} {n block : Nat} : ∀ (cs : List (List (List Nat))) (i a : Nat) (l : List (List Nat)) (a' : Nat), (∀ j, j < cs.length → (cs.getD j []).length = (if n - (i + j) * block < block then n - (i + j) * block else block)) → (∀ c, c ∈ cs → c ≠ [] ∧ ∀ s, s ∈ c → s.length ≤ 4096) →
    Eat b a a' ((cs.map blk).flatten) → Rt (l ++ cs.flatten) block → cOpenL b n block (cs.map fun c => (blk c).length) i a l = (l ++ cs.flatten, a', 0)
  | [], i, a, l, a', hq, hc, he, hr => by
    have := he.end_
    simp at this
    subst this
    rw [List.flatten_nil, List.append_nil] at hr ⊢
    rw [List.map_nil, cOpenL, if_pos hr]
  | c :: cs, i, a, l, a', hq, hc, he, hr => by
    rw [List.map_cons, List.flatten_cons] at he
    obtain ⟨h1, h2⟩ := he.part
    have h00 := hq 0 (by simp)
    rw [List.getD_cons_zero, Nat.add_zero] at h00
    obtain ⟨c1, c2⟩ := hc c (by simp)
    rw [List.map_cons, cOpenL, ← h00, taken_complete c1 c2 h1]
    simp only
    rw [if_neg (by simp), openL_complete cs (i + 1) _ (l ++ c) a' (fun j hj => by
      have := hq (j + 1) (by simp; omega)
      rwa [List.getD_cons_succ, show i + (j + 1) = i + 1 + j by omega] at this) (fun d hd => hc d (by simp [hd])) h2 (by rw [List.append_assoc]; simpa using hr)]
    simp

/-! ### packed numbers read -/
theorem readRes_ext {l l' b : List Nat} {a a' e e' : Nat} (h1 : l = l') (h2 : a = a') (h3 : e = e') : readRes l b a e = readRes l' b a' e' := by rw [h1, h2, h3]
theorem PackRead_sum (h : EqFnP C) (H : EqH C) {k : Nat} (hk : big + 4 < k) {b : List Nat} {a e m : Nat} (ho : octets b) (ha : a ≤ b.length) (hb : b.length ≤ 1000000000) (hm : m ≤ 1000000000) :
    ∃ l a' e', C k 22 [.pt [.sl false (.ints .u8 (ints b)), .int .i64 (a : Int), .int .i64 (e : Int)], .int .i64 (m : Int)] = readRes l b a' e' ∧ a' ≤ b.length ∧ (e' ≠ 0 → l = []) ∧
      (e' = 0 → e = 0 ∧ l.length ≤ m ∧ (∀ x, x ∈ l → x < 4294967296) ∧ ∃ o, Written l o ∧ Eat b a a' o) := by
  obtain ⟨M, hM⟩ : ∃ M, cMost b a e m = M := ⟨_, rfl⟩
  obtain ⟨n, a1, e1⟩ := M
  obtain ⟨B, hB⟩ : ∃ B, cByte b a1 e1 = B := ⟨_, rfl⟩
  obtain ⟨w, a2, e2⟩ := B
  obtain ⟨Q, hQ⟩ : ∃ Q, cBytes b a2 e2 ((n * w + 7) / 8) = Q := ⟨_, rfl⟩
  obtain ⟨p, a3, e3⟩ := Q
  have m1 := cMost_ok b a e m ha
  rw [hM] at m1
  simp only at m1
  have m2 := cByte_ok b a1 e1 m1.1 ho
  rw [hB] at m2
  simp only at m2
  have m3 := cBytes_ok b a2 e2 ((n * w + 7) / 8) m2.1
  rw [hQ] at m3
  simp only at m3
  obtain ⟨s1, s2, s3⟩ := PackRead_spec h H hk ho ha hb hm hM hB hQ _ rfl
  by_cases hw : 32 < w
  · exact ⟨[], a2, _, s1 hw, m2.1, fun _ => rfl, fun hz => by split at hz <;> omega⟩
  · by_cases he : e3 = 0
    · obtain ⟨l, l1, l2, l3, l4⟩ := s3 (by omega) he
      by_cases hp : width l = w ∧ Packed p l w
      · refine ⟨l, a3, 0, l3 hp, m3.1, fun hx => absurd rfl hx, fun _ => ?_⟩
        subst he
        obtain ⟨b1, b2, b3⟩ := bytes_sound m2.1 hQ
        subst b1
        have hB' : cBytes b a1 e1 1 = ((cBytes b a1 e1 1).1, a2, 0) := by
          unfold cByte at hB
          simp only [Prod.mk.injEq] at hB
          exact Prod.ext rfl hB.2
        have hw1 : (cBytes b a1 e1 1).1.getD 0 0 = w := by
          unfold cByte at hB
          simp only [Prod.mk.injEq] at hB
          exact hB.1
        obtain ⟨y1, y2, y3⟩ := bytes_sound m1.1 hB'
        subst y1
        obtain ⟨z1, z2, z3⟩ := most_sound ho ha hM
        refine ⟨z1, by omega, fun x hx => Nat.lt_of_lt_of_le (l2.lt x hx) (Nat.pow_le_pow_right (by omega) (show w ≤ 32 by omega)), _, ⟨p, by rw [hp.1]; exact hp.2, rfl⟩, ?_⟩
        have e1 : (cBytes b a1 0 1).1 = [w] := by
          obtain ⟨x, hx⟩ := List.length_eq_one_iff.1 y3
          rw [hx] at hw1 ⊢
          simp at hw1
          rw [hw1]
        rw [e1] at y2
        rw [l1, hp.1]
        exact z2.trans (y2.trans b2)
      · exact ⟨[], a3, 3, l4 hp, m3.1, fun _ => rfl, fun hz => by cases hz⟩
    · exact ⟨[], a3, e3, s2 (by omega) he, m3.1, fun _ => rfl, fun hz => absurd hz he⟩
theorem Written.unique {l o o' : List Nat} (h : Written l o) (g : Written l o') : o = o' := by
  obtain ⟨p, p1, rfl⟩ := h
  obtain ⟨q, q1, rfl⟩ := g
  rw [p1.unique q1]
theorem Built.unique {l : List (List Nat)} {k : Nat} {o o' : List Nat} (h : Built l k o) (g : Built l k o') : o = o' := by
  obtain ⟨p, p1, rfl⟩ := h
  obtain ⟨q, q1, rfl⟩ := g
  rw [p1.unique q1]
theorem Written.octets {l o : List Nat} (h : Written l o) (hx : ∀ x, x ∈ l → x < 4294967296) (hn : l.length ≤ 1000000000) : octets o := by
  obtain ⟨p, p1, rfl⟩ := h
  have hw : width l ≤ 32 := width_le hx
  refine octets_append (vput_octets 8 _ (by omega)) (fun x hx => ?_)
  rcases List.mem_cons.1 hx with rfl | hx
  · omega
  · exact p1.oct x hx
theorem Written.len {l o : List Nat} (h : Written l o) (hx : ∀ x, x ∈ l → x < 4294967296) (hn : l.length ≤ 1000000000) : o.length ≤ 4 * l.length + 11 := by
  obtain ⟨p, p1, rfl⟩ := h
  have hw : width l ≤ 32 := width_le hx
  have := vput_len 8 l.length (by omega)
  have hm : l.length * width l ≤ l.length * 32 := Nat.mul_le_mul_left _ hw
  rw [List.length_append, List.length_cons, p1.len]; omega
theorem read_eat (h : EqFnP C) (H : EqH C) {k : Nat} (hk : big + 4 < k) {l o b : List Nat} {a a' m : Nat} (hw : Written l o) (hx : ∀ x, x ∈ l → x < 4294967296) (hl : l.length ≤ m) (hm : m ≤ 1000000) (ho : octets b) (hb : b.length ≤ 1000000000) (he : Eat b a a' o) :
    C k 22 [.pt [.sl false (.ints .u8 (ints b)), .int .i64 (a : Int), .int .i64 ((0 : Nat) : Int)], .int .i64 (m : Int)] = readRes l b a' 0 := by
  have hs := he.start
  have e1 : b = b.take a ++ (o ++ b.drop a') := by rw [← he.at_, List.take_append_drop]
  have el : (b.take a).length = a := by rw [List.length_take]; omega
  have := read_written h H hk hw hx hl hm (b.take a) (b.drop a') (by rw [← e1]; exact ho) (by rw [← e1]; exact hb)
  rw [← e1, el] at this
  rw [this]
  exact readRes_ext rfl he.end_.symm rfl

/-! ### dictionaries -/
/-- Open: a dictionary that is built as it stood, or one without strings and an error -/
theorem FrontOpen_sum (h : EqFnS C) (hP : EqFnP C) (H : EqH C) {k : Nat} (hk : big + 6 < k) {b : List Nat} {a : Nat} (ho : octets b) (ha : a ≤ b.length) (hb : b.length ≤ 1000000000) :
    ∃ l a' e', C k 30 [.pt [.sl false (.ints .u8 (ints b)), .int .i64 (a : Int), .int .i64 0]] = dictRes b (l, a', e') ∧ (e' ≠ 0 → l = []) ∧ (e' = 0 → ∃ block o, Rt l block ∧ octs l ∧ Built l block o ∧ Eat b a a' o) := by
  obtain ⟨M, hM⟩ : ∃ M, cMost b a 0 4096 = M := ⟨_, rfl⟩
  obtain ⟨n, a1, e1⟩ := M
  obtain ⟨B, hB⟩ : ∃ B, cMost b a1 e1 64 = B := ⟨_, rfl⟩
  obtain ⟨block, a2, e2⟩ := B
  have m1 := cMost_ok b a 0 4096 ha
  rw [hM] at m1
  simp only at m1
  have m2 := cMost_ok b a1 e1 64 m1.1
  rw [hB] at m2
  simp only at m2
  obtain ⟨zs, a3, e3, r1, r2, r3, r4⟩ := PackRead_sum hP H (k := k - 1) (by omega) (e := e2) (m := 4096) ho m2.1 hb (by omega)
  rw [show ((4096 : Nat) : Int) = 4096 from rfl] at r1
  have sp := FrontOpen_spec h hP H hk ho ha hb hM hB r1 r2 r3
  refine ⟨(cOpen b a (zs, a3, e3) n block).1, (cOpen b a (zs, a3, e3) n block).2.1, (cOpen b a (zs, a3, e3) n block).2.2, sp, ?_, ?_⟩
  · unfold cOpen
    simp only
    split
    · exact fun _ => rfl
    · split
      · exact fun _ => rfl
      · intro hx
        have : ∀ (zs : List Nat) (i a : Nat) (l : List (List Nat)), (cOpenL b n block zs i a l).2.2 ≠ 0 → (cOpenL b n block zs i a l).1 = [] := by
          intro zs
          induction zs with
          | nil => intro i a l; unfold cOpenL; split <;> simp
          | cons z r ih =>
            intro i a l
            unfold cOpenL
            generalize (if n - i * block < block then n - i * block else block) = cn
            by_cases hz : (cTaken b a cn z).2.2 ≠ 0
            · rw [if_pos hz]; intro _; rfl
            · rw [if_neg hz]; exact ih _ _ _
        exact this _ _ _ _ hx
  · intro hx
    have hx' : cOpen b a (zs, a3, e3) n block = ((cOpen b a (zs, a3, e3) n block).1, (cOpen b a (zs, a3, e3) n block).2.1, 0) := Prod.ext rfl (Prod.ext rfl hx)
    generalize (cOpen b a (zs, a3, e3) n block).1 = L at *
    generalize (cOpen b a (zs, a3, e3) n block).2.1 = A at *
    clear hx sp
    unfold cOpen at hx'
    simp only at hx'
    split at hx'
    · simp only [Prod.mk.injEq] at hx'
      have := hx'.2.2
      split at this <;> omega
    · rename_i hno
      have hb0 : block ≠ 0 := fun e => hno (.inl e)
      have hzl : zs.length = (n + block - 1) / block := by
        by_cases hz : zs.length = (n + block - 1) / block
        · exact hz
        · exact absurd (.inr hz) hno
      split at hx'
      · simp only [Prod.mk.injEq] at hx'
        rename_i he
        exact absurd hx'.2.2 he
      · rename_i he
        have he3 : e3 = 0 := by simpa using he
        subst he3
        obtain ⟨q1, q2, q3, o, q4, q5⟩ := r4 rfl
        subst q1
        obtain ⟨y1, y2, y3⟩ := most_sound ho m1.1 hB
        subst y1
        obtain ⟨_, z2, z3⟩ := most_sound ho ha hM
        obtain ⟨cs, c1, c2, c3, c4, c5, c6, c7⟩ := openL_sound ho (by omega) m2.2 zs 0 a3 [] L A (fun j hj => by
          have h1 : j + 1 ≤ (n + block - 1) / block := by omega
          have h2 := (Nat.le_div_iff_mul_le (by omega)).1 h1
          rw [Nat.zero_add]
          rw [Nat.add_mul] at h2; omega) r2 (fun s hs => by cases hs) hx'
        rw [List.nil_append] at c2
        obtain ⟨f1, f2⟩ := chunks_of (k := block) (by omega) cs n (fun j hj => by have := c3 j hj; rwa [Nat.zero_add] at this) (by rw [c1]; exact hzl)
        rw [← c2] at f1 f2
        refine ⟨block, _, c6, c7, ⟨o, ?_, rfl⟩, ?_⟩
        · unfold sizes
          rw [f2, c4]; exact q4
        · unfold allBytes
          rw [f2, f1]
          exact z2.trans (y2.trans (q5.trans c5))
/-- what is built is opened as it was -/
theorem FrontOpen_back (h : EqFnS C) (hP : EqFnP C) (H : EqH C) {k : Nat} (hk : big + 6 < k) {b o : List Nat} {l : List (List Nat)} {block a a' : Nat} (ho : octets b) (hb : b.length ≤ 1000000000) (hr : Rt l block) (hu : Built l block o) (he : Eat b a a' o) :
    C k 30 [.pt [.sl false (.ints .u8 (ints b)), .int .i64 (a : Int), .int .i64 0]] = dictRes b (l, a', 0) := by
  obtain ⟨w, w1, rfl⟩ := hu
  have ha := he.start
  have hb1 := hr.lo
  have hb2 := hr.hi
  have hl := hr.len
  obtain ⟨h1, h2⟩ := he.part
  obtain ⟨h3, h4⟩ := h2.part
  obtain ⟨h5, h6⟩ := h4.part
  have c1 := most_complete (m := 4096) (by omega) hl h1
  have c2 := most_complete (m := 64) (by omega) hb2 h3
  have hsl := sizes_len (k := block) (by omega) l
  have hdv := div_up_le (k := block) (by omega) l.length
  have r := read_eat hP H (k := k - 1) (by omega) w1 (sizes_lt (by omega) hr.size) (m := 4096) (by omega) (by omega) ho hb h5
  rw [FrontOpen_spec h hP H hk ho ha hb c1 c2 r h5.in_ (fun hx => absurd rfl hx)]
  congr 1
  unfold cOpen
  simp only
  rw [if_neg (by rintro (hx | hx); omega; exact hx hsl), if_neg (by simp)]
  have hcf := chunks_flatten (k := block) (by omega) l.length l (Nat.le_refl _)
  have := openL_complete (b := b) (n := l.length) (block := block) (chunks block l) 0 _ [] a' (fun j hj => by rw [Nat.zero_add]; exact chunks_size (by omega) l.length l (Nat.le_refl _) j hj) (fun c hc => by
    obtain ⟨m1, _, m3⟩ := chunks_mem l.length l c (Nat.le_refl _) hc
    exact ⟨m1, fun s hs => hr.size s (m3 s hs)⟩) h6 (by rw [List.nil_append, hcf]; exact hr)
  rw [List.nil_append, hcf] at this
  exact this
end Go.Proofs.Ytfkkigbbejhfbaa
