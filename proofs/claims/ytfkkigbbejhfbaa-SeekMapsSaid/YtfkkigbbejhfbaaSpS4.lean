/- Blocks of strings: what entries are, and what the reference builds. -/
import Derived.Test.YtfkkigbbejhfbaaSpS3
namespace Go.Proofs.Ytfkkigbbejhfbaa
open Go Idl
set_option linter.unusedSimpArgs false
set_option linter.unusedVariables false
set_option maxRecDepth 100000
variable {C : Nat → CallF}

theorem chunks_nil {α : Type} (k : Nat) : chunks k ([] : List α) = [] := by rw [chunks, dif_pos (.inl rfl)]
theorem chunks_more {α : Type} {k : Nat} (hk : 0 < k) {l : List α} (h : l ≠ []) : chunks k l = l.take k :: chunks k (l.drop k) := by rw [chunks, dif_neg (fun e => e.elim h (fun e => by omega))]
theorem chunks_snoc {α : Type} {k : Nat} (hk : 0 < k) (x : α) : ∀ (n : Nat) (l : List α), l.length ≤ n →
    (l.length % k = 0 → chunks k (l ++ [x]) = chunks k l ++ [[x]]) ∧
    (l.length % k ≠ 0 → ∃ cs c, chunks k l = cs ++ [c] ∧ c ≠ [] ∧ c.getLast? = l.getLast? ∧ chunks k (l ++ [x]) = cs ++ [c ++ [x]]) := by
  intro n
  induction n with
  | zero =>
    intro l hl
    obtain rfl : l = [] := List.eq_nil_of_length_eq_zero (by omega)
    refine ⟨fun _ => ?_, fun h => absurd (by simp) h⟩
    rw [List.nil_append, chunks_more hk (by simp), chunks_nil, List.take_of_length_le (by simp; omega), List.drop_of_length_le (by simp; omega), chunks_nil]; rfl
  | succ n ih =>
    intro l hl
    by_cases h0 : l = []
    · subst h0; exact ih [] (by simp)
    have hp : 0 < l.length := List.length_pos_iff.2 h0
    by_cases hlt : l.length < k
    · refine ⟨fun h => absurd h (by rw [Nat.mod_eq_of_lt hlt]; omega), fun _ => ⟨[], l, ?_, h0, rfl, ?_⟩⟩
      · rw [chunks_more hk h0, List.take_of_length_le (by omega), List.drop_of_length_le (by omega), chunks_nil]; rfl
      · rw [chunks_more hk (by simp), List.take_of_length_le (by simp; omega), List.drop_of_length_le (by simp; omega), chunks_nil]; rfl
    · have e1 : (l ++ [x]).take k = l.take k := List.take_append_of_le_length (by omega)
      have e2 : (l ++ [x]).drop k = l.drop k ++ [x] := List.drop_append_of_le_length (by omega)
      have e3 : (l.drop k).length % k = l.length % k := by rw [List.length_drop, ← Nat.mod_eq_sub_mod (by omega)]
      obtain ⟨i1, i2⟩ := ih (l.drop k) (by rw [List.length_drop]; omega)
      rw [e3] at i1 i2
      rw [chunks_more hk (l := l ++ [x]) (by simp), e1, e2, chunks_more hk h0]
      refine ⟨fun h => by rw [i1 h]; rfl, fun h => ?_⟩
      obtain ⟨cs, c, c1, c2, c3, c4⟩ := i2 h
      refine ⟨l.take k :: cs, c, by rw [c1]; rfl, c2, ?_, by rw [c4]; rfl⟩
      rw [c3, List.getLast?_drop, if_neg (fun hle => h (by rw [show l.length = k by omega, Nat.mod_self]))]
theorem chunks_flatten {α : Type} {k : Nat} (hk : 0 < k) : ∀ (n : Nat) (l : List α), l.length ≤ n → (chunks k l).flatten = l
  | 0, l, hl => by
    obtain rfl : l = [] := List.eq_nil_of_length_eq_zero (by omega)
    rw [chunks_nil]; rfl
  | n + 1, l, hl => by
    by_cases h0 : l = []
    · subst h0; rw [chunks_nil]; rfl
    · have hp : 0 < l.length := List.length_pos_iff.2 h0
      rw [chunks_more hk h0, List.flatten_cons, chunks_flatten hk n (l.drop k) (by rw [List.length_drop]; omega), List.take_append_drop]
theorem chunks_mem {α : Type} {k : Nat} : ∀ (n : Nat) (l c : List α), l.length ≤ n → c ∈ chunks k l → c ≠ [] ∧ c.length ≤ k ∧ ∀ x, x ∈ c → x ∈ l
  | 0, l, c, hl, hc => by
    obtain rfl : l = [] := List.eq_nil_of_length_eq_zero (by omega)
    rw [chunks_nil] at hc; cases hc
  | n + 1, l, c, hl, hc => by
    by_cases h0 : l = [] ∨ k = 0
    · rw [chunks, dif_pos h0] at hc; cases hc
    · rw [chunks, dif_neg h0] at hc
      have hl0 : l ≠ [] := fun e => h0 (.inl e)
      have hk : k ≠ 0 := fun e => h0 (.inr e)
      have hp : 0 < l.length := List.length_pos_iff.2 hl0
      rcases List.mem_cons.1 hc with rfl | hc
      · refine ⟨fun e => ?_, by rw [List.length_take]; omega, fun x hx => List.mem_of_mem_take hx⟩
        have := congrArg List.length e
        rw [List.length_take, List.length_nil] at this; omega
      · obtain ⟨h1, h2, h3⟩ := chunks_mem n (l.drop k) c (by rw [List.length_drop]; omega) hc
        exact ⟨h1, h2, fun x hx => List.mem_of_mem_drop (h3 x hx)⟩
theorem chunks_len {α : Type} {k : Nat} (hk : 0 < k) : ∀ (n : Nat) (l : List α), l.length ≤ n → (chunks k l).length = (l.length + k - 1) / k
  | 0, l, hl => by
    obtain rfl : l = [] := List.eq_nil_of_length_eq_zero (by omega)
    rw [chunks_nil]
    exact (Nat.div_eq_of_lt (show 0 + k - 1 < k by omega)).symm
  | n + 1, l, hl => by
    by_cases h0 : l = []
    · subst h0
      rw [chunks_nil]
      exact (Nat.div_eq_of_lt (show 0 + k - 1 < k by omega)).symm
    · have hp : 0 < l.length := List.length_pos_iff.2 h0
      rw [chunks_more hk h0, List.length_cons, chunks_len hk n (l.drop k) (by rw [List.length_drop]; omega), List.length_drop]
      by_cases hlt : l.length ≤ k
      · rw [show l.length - k = 0 by omega, Nat.div_eq_of_lt (by omega), show l.length + k - 1 = (l.length - 1) + k by omega, Nat.add_div_right _ hk, Nat.div_eq_of_lt (by omega)]
      · rw [show l.length + k - 1 = (l.length - k + k - 1) + k by omega, Nat.add_div_right _ hk]

theorem div_up_le {k : Nat} (hk : 0 < k) (n : Nat) : (n + k - 1) / k ≤ n := by
  cases n with
  | zero => exact Nat.le_of_eq (Nat.div_eq_of_lt (by omega))
  | succ m =>
    rw [show m + 1 + k - 1 = m + k by omega, Nat.add_div_right _ hk]
    have := Nat.div_le_self m k
    omega
/-- a block's entries behind its first -/
def ents (p : List Nat) : List (List Nat) → List Nat
  | [] => []
  | s :: r => vput (lcp p s) ++ (vtext (s.drop (lcp p s)) ++ ents s r)
/-- a block's bytes -/
def blk : List (List Nat) → List Nat
  | [] => []
  | s :: r => vtext s ++ ents s r
theorem ents_snoc (s : List Nat) : ∀ (r : List (List Nat)) (p : List Nat), ents p (r ++ [s]) = ents p r ++ (vput (lcp (r.getLastD p) s) ++ vtext (s.drop (lcp (r.getLastD p) s)))
  | [], p => by simp [ents]
  | y :: r, p => by
    simp only [List.cons_append, ents, ents_snoc s r y, List.append_assoc, List.getLastD_cons]
theorem blk_snoc {c : List (List Nat)} (hc : c ≠ []) (s : List Nat) {p : List Nat} (hp : c.getLast? = some p) : blk (c ++ [s]) = blk c ++ (vput (lcp p s) ++ vtext (s.drop (lcp p s))) := by
  cases c with
  | nil => exact absurd rfl hc
  | cons y r =>
    rw [List.cons_append, blk, blk, ents_snoc, List.append_assoc]
    have : r.getLastD y = p := by
      rw [List.getLast?_cons] at hp
      rw [List.getLastD_eq_getLast?]
      exact Option.some.inj hp
    rw [this]
theorem ents_len : ∀ (r : List (List Nat)) (p : List Nat), p.length ≤ 4096 → (∀ s, s ∈ r → s.length ≤ 4096) → (ents p r).length ≤ r.length * 4114
  | [], p, _, _ => by simp [ents]
  | s :: r, p, hp, h => by
    have h1 := ents_len r s (h s (by simp)) (fun s hs => h s (by simp [hs]))
    have h2 := lcp_le p s
    have hs := h s (by simp)
    have h3 := vput_len 8 (lcp p s) (by omega)
    have h4 := vtext_len (s := s.drop (lcp p s)) (by rw [List.length_drop]; omega)
    rw [List.length_drop] at h4
    simp only [ents, List.length_append, List.length_cons]
    omega
theorem blk_len {c : List (List Nat)} (h : ∀ s, s ∈ c → s.length ≤ 4096) : (blk c).length ≤ c.length * 4114 := by
  cases c with
  | nil => simp [blk]
  | cons s r =>
    have h1 := ents_len r s (h s (by simp)) (fun s hs => h s (by simp [hs]))
    have h4 := vtext_len (s := s) (by have := h s (by simp); omega)
    have hs := h s (by simp)
    simp only [blk, List.length_append, List.length_cons]
    omega
theorem blk_pos {c : List (List Nat)} (hc : c ≠ []) (h : ∀ s, s ∈ c → s.length ≤ 4096) : 0 < (blk c).length := by
  cases c with
  | nil => exact absurd rfl hc
  | cons s r =>
    have h4 := vtext_len (s := s) (by have := h s (by simp); omega)
    simp only [blk, List.length_append]; omega
theorem ents_octets : ∀ (r : List (List Nat)) (p : List Nat), p.length ≤ 4096 → (∀ s, s ∈ r → s.length ≤ 4096) → octs r → octets (ents p r)
  | [], p, _, _, _ => by intro x hx; simp [ents] at hx
  | s :: r, p, hp, h, ho => by
    have h2 := lcp_le p s
    have hs := h s (by simp)
    unfold ents
    refine octets_append (vput_octets 8 _ (by omega)) (octets_append (vtext_octets (octets_drop (ho s (by simp)) _) (by rw [List.length_drop]; omega)) (ents_octets r s hs (fun s hs => h s (by simp [hs])) (fun s hs => ho s (by simp [hs]))))
theorem blk_octets {c : List (List Nat)} (h : ∀ s, s ∈ c → s.length ≤ 4096) (ho : octs c) : octets (blk c) := by
  cases c with
  | nil => intro x hx; simp [blk] at hx
  | cons s r =>
    have hs := h s (by simp)
    exact octets_append (vtext_octets (ho s (by simp)) (by omega)) (ents_octets r s hs (fun s hs => h s (by simp [hs])) (fun s hs => ho s (by simp [hs])))

theorem entries_loop (h : EqFnS C) (hP : EqFnP C) (H : EqH C) {k : Nat} (hk : big + 2 < k) {c : List (List Nat)} (ho : octs c) (hs : ∀ s, s ∈ c → s.length ≤ 4096) (hn : c.length ≤ 100000) : ∀ (d i j : Nat) (acc : List Nat), i + 1 + d = c.length → d < j → acc.length ≤ (i + 1) * 4114 →
    Entries.l0 C k j (strs c) (strs (c.drop 1)) ((c.length - 1 : Nat) : Int) (i : Int) (ints acc) = some (.sl true (.ints .u8 (ints (acc ++ ents (c.getD i []) (c.drop (i + 1))))), []) := by
  intro d
  induction d with
  | zero =>
    intro i j acc hd hj ha
    obtain ⟨j, rfl⟩ : ∃ m, j = m + 1 := ⟨j - 1, by omega⟩
    rw [Entries.l0_eq, List.drop_of_length_le (by omega : c.length ≤ i + 1)]
    simp (disch := omega) only [cond_dec, cond_beq, cond_bne, cond_true, cond_false, Bool.not_true, Bool.not_false, if_pos, if_neg, Int.toNat_natCast, eq_self, and_true, true_and, bound, w64, natS, natP]
    rw [Entries.e0_eq]
    simp [ents]
  | succ d ih =>
    intro i j acc hd hj ha
    obtain ⟨j, rfl⟩ : ∃ m, j = m + 1 := ⟨j - 1, by omega⟩
    have h1 : i < c.length := by omega
    have h2 : i + 1 < c.length := by omega
    have u := strs_get c h1
    have v : (strs (c.drop 1))[i]? = some (mk c[i + 1]) := by
      have := strs_get (c.drop 1) (i := i) (by rw [List.length_drop]; omega)
      rw [this, List.getElem_drop]
      congr 3; omega
    have s1 := hs _ (List.getElem_mem h1)
    have s2 := hs _ (List.getElem_mem h2)
    have o1 := ho _ (List.getElem_mem h1)
    have o2 := ho _ (List.getElem_mem h2)
    have hl := lcp_le c[i] c[i + 1]
    have hv := vput_len 8 (lcp c[i] c[i + 1]) (by omega)
    have ht := vtext_len (s := c[i + 1].drop (lcp c[i] c[i + 1])) (by rw [List.length_drop]; omega)
    rw [List.length_drop] at ht
    rw [Entries.l0_eq]
    simp (disch := omega) only [cond_dec, cond_beq, cond_bne, cond_true, cond_false, Bool.not_true, Bool.not_false, if_pos, if_neg, Int.toNat_natCast, eq_self, and_true, true_and, bound, w64, natS, natP, u, v, size_mk]
    rw [Shared.s_ok _ _ (Shared_spec h (by omega) o1 o2 (by omega)), CurPut.q_ok _ (CurPut_spec hP (by omega) (by omega)), if_pos (by omega), Int.toNat_natCast, mk_extract o2, List.take_length,
      CurPutText.q_ok _ (CurPutText_spec h hP (by omega) (octets_drop o2 _) (by rw [List.length_drop]; omega))]
    have hc := Concat_spec hP H (k := k) (by omega) (ps := [ints acc, ints (vput (lcp c[i] c[i + 1])), ints (vtext (c[i + 1].drop (lcp c[i] c[i + 1])))]) (by simp) (by simp [ints_len]; unfold bound; omega)
    have e1 : ([V.sl false (Arr.ints IntKind.u8 (ints acc)), V.sl false (Arr.ints IntKind.u8 (ints (vput (lcp c[i] c[i + 1])))), V.sl false (Arr.ints IntKind.u8 (ints (vtext (c[i + 1].drop (lcp c[i] c[i + 1])))))] : List V) = rows8 [ints acc, ints (vput (lcp c[i] c[i + 1])), ints (vtext (c[i + 1].drop (lcp c[i] c[i + 1])))] := rfl
    have e2 : [ints acc, ints (vput (lcp c[i] c[i + 1])), ints (vtext (c[i + 1].drop (lcp c[i] c[i + 1])))].flatten = ints (acc ++ (vput (lcp c[i] c[i + 1]) ++ vtext (c[i + 1].drop (lcp c[i] c[i + 1])))) := by simp [ints]
    rw [e2] at hc
    rw [e1, Concat.q_ok _ hc, ih (i + 1) j _ (by omega) (by omega) (by simp only [List.length_append]; omega)]
    rw [List.drop_eq_getElem_cons h2, ents, strs_getD c h1, strs_getD c h2]
    simp only [List.append_assoc]
theorem Entries_spec (h : EqFnS C) (hP : EqFnP C) (H : EqH C) {k : Nat} (hk : big + 3 < k) {c : List (List Nat)} (hc : c ≠ []) (ho : octs c) (hs : ∀ s, s ∈ c → s.length ≤ 4096) (hn : c.length ≤ 100000) :
    C k 71 [.sl false (.strs (strs c))] = some (.sl true (.ints .u8 (ints (blk c))), []) := by
  obtain ⟨k, rfl⟩ : ∃ m, k = m + 1 := ⟨k - 1, by omega⟩
  have h0 : 0 < c.length := List.length_pos_iff.2 hc
  have u := strs_get c h0
  have s0 := hs _ (List.getElem_mem h0)
  have ht := vtext_len (s := c[0]) (by omega)
  have lp := entries_loop h hP H (k := k) (by omega) ho hs hn (c.length - 1) 0 k (vtext c[0]) (by omega) (by unfold big at hk; omega) (by omega)
  have z : ((0 : Int)).toNat = 0 := rfl
  have z1 : ((1 : Int)).toNat = 1 := rfl
  rw [h.Entries, Entries.f_eq, if_pos (Int.le_refl _), z, u]
  simp only
  have e0 : blk c = vtext c[0] ++ ents (c.getD 0 []) (c.drop (0 + 1)) := by
    rw [strs_getD c h0]
    cases c with
    | nil => exact absurd rfl hc
    | cons s r => rfl
  rw [CurPutText.q_ok _ (CurPutText_spec h hP (by omega) (ho _ (List.getElem_mem h0)) (by omega)), strs_len, if_pos ⟨by omega, by omega, by omega, by trivial, by trivial⟩, Int.toNat_natCast, z1, strs_take, List.take_length, strs_drop, strs_len, List.length_drop, e0]
  exact lp

/-! ### what the reference builds -/
def sizes (k : Nat) (l : List (List Nat)) : List Nat := (chunks k l).map fun c => (blk c).length
def allBytes (k : Nat) (l : List (List Nat)) : List Nat := ((chunks k l).map blk).flatten
def Built (l : List (List Nat)) (k : Nat) (o : List Nat) : Prop := ∃ w, Written (sizes k l) w ∧ o = vput l.length ++ (vput k ++ (w ++ allBytes k l))
theorem sum_bytes : ∀ (cs : List (List (List Nat))), (∀ c, c ∈ cs → ∀ s, s ∈ c → s.length ≤ 4096) → ((cs.map blk).flatten).length ≤ cs.flatten.length * 4114
  | [], _ => by simp
  | c :: cs, h => by
    have h1 := sum_bytes cs (fun d hd => h d (by simp [hd]))
    have h2 := blk_len (h c (by simp))
    simp only [List.map_cons, List.flatten_cons, List.length_append]; omega
theorem allBytes_len {k : Nat} (hk : 0 < k) {l : List (List Nat)} (h : ∀ s, s ∈ l → s.length ≤ 4096) : (allBytes k l).length ≤ l.length * 4114 := by
  have := sum_bytes (chunks k l) (fun c hc s hs => h s ((chunks_mem l.length l c (Nat.le_refl _) hc).2.2 s hs))
  rwa [chunks_flatten hk l.length l (Nat.le_refl _)] at this
theorem sizes_lt {k : Nat} (hk : k ≤ 1000000) {l : List (List Nat)} (h : ∀ s, s ∈ l → s.length ≤ 4096) : ∀ x, x ∈ sizes k l → x < 4294967296 := by
  intro x hx
  obtain ⟨c, hc, rfl⟩ := List.mem_map.1 hx
  obtain ⟨h1, h2, h3⟩ := chunks_mem l.length l c (Nat.le_refl _) hc
  have := blk_len (c := c) (fun s hs => h s (h3 s hs))
  have hm : c.length * 4114 ≤ k * 4114 := Nat.mul_le_mul_right _ h2
  omega
theorem sizes_len {k : Nat} (hk : 0 < k) (l : List (List Nat)) : (sizes k l).length = (l.length + k - 1) / k := by rw [sizes, List.length_map, chunks_len hk l.length l (Nat.le_refl _)]
theorem lcp_shift {a b : List Nat} {n : Nat} (h1 : n < a.length) (h2 : n < b.length) (h : n ≤ lcp a b) (e : a[n] = b[n]) : n + 1 ≤ lcp a b := by
  have := lcp_at n h
  rw [List.drop_eq_getElem_cons h1, List.drop_eq_getElem_cons h2] at this
  simp only [lcp, e, if_true] at this
  omega
theorem lcp_stop {a b : List Nat} (h1 : lcp a b < a.length) (h2 : lcp a b < b.length) : a[lcp a b] ≠ b[lcp a b] := by
  intro e
  have := lcp_shift h1 h2 (Nat.le_refl _) e
  omega
theorem rshared (k : Nat) {l : List (List Nat)} (ho : octs l) (hs : ∀ s, s ∈ l → s.length ≤ 4096) {i b j0 : Nat} {a4 a5 : List Int} (h0 : 0 < i) (hi : i < l.length) (hn : l.length ≤ 1000000) : ∀ (d n j : Nat), n + d = lcp l[i - 1] l[i] → d < j →
    RefBuild.l1 C k j j0 (strs l) (b : Int) (i : Int) (n : Int) a4 a5 = RefBuild.e3 C k j0 (strs l) (b : Int) (i : Int) ((lcp l[i - 1] l[i] : Nat) : Int) a4 a5 := by
  have u := strs_get l (i := i - 1) (by omega)
  have v := strs_get l hi
  have hle := lcp_le l[i - 1] l[i]
  have o1 := ho _ (List.getElem_mem (show i - 1 < l.length by omega))
  have o2 := ho _ (List.getElem_mem hi)
  have s1 := hs _ (List.getElem_mem (show i - 1 < l.length by omega))
  intro d
  induction d with
  | zero =>
    intro n j hd hj
    obtain ⟨j, rfl⟩ : ∃ m, j = m + 1 := ⟨j - 1, by omega⟩
    have hnn : n = lcp l[i - 1] l[i] := by omega
    rw [RefBuild.l1_eq, hnn]
    by_cases h1 : lcp l[i - 1] l[i] < l[i - 1].length
    · by_cases h2 : lcp l[i - 1] l[i] < l[i].length
      · obtain ⟨x, x1, x2⟩ := mk_get o1 h1
        obtain ⟨y, y1, y2⟩ := mk_get o2 h2
        have hne := lcp_stop h1 h2
        simp (disch := omega) only [cond_dec, cond_beq, cond_bne, cond_true, cond_false, Bool.not_true, Bool.not_false, if_pos, if_neg, Int.toNat_natCast, eq_self, and_true, true_and, bound, w64, natS, natP, u, v, size_mk, x1, y1, x2, y2]
      · simp (disch := omega) only [cond_dec, cond_beq, cond_bne, cond_true, cond_false, Bool.not_true, Bool.not_false, if_pos, if_neg, Int.toNat_natCast, eq_self, and_true, true_and, bound, w64, natS, natP, u, v, size_mk]
    · simp (disch := omega) only [cond_dec, cond_beq, cond_bne, cond_true, cond_false, Bool.not_true, Bool.not_false, if_pos, if_neg, Int.toNat_natCast, eq_self, and_true, true_and, bound, w64, natS, natP, u, v, size_mk]
  | succ d ih =>
    intro n j hd hj
    obtain ⟨j, rfl⟩ : ∃ m, j = m + 1 := ⟨j - 1, by omega⟩
    have h1 : n < l[i - 1].length := by omega
    have h2 : n < l[i].length := by omega
    obtain ⟨x, x1, x2⟩ := mk_get o1 h1
    obtain ⟨y, y1, y2⟩ := mk_get o2 h2
    have he : l[i - 1][n] = l[i][n] := by
      have ht := lcp_take l[i - 1] l[i]
      have := congrArg (fun z => z[n]?) ht
      simp only [List.getElem?_take, if_pos (show n < lcp l[i - 1] l[i] by omega), List.getElem?_eq_getElem h1, List.getElem?_eq_getElem h2, Option.some.injEq] at this
      exact this
    rw [RefBuild.l1_eq]
    simp (disch := omega) only [cond_dec, cond_beq, cond_bne, cond_true, cond_false, Bool.not_true, Bool.not_false, if_pos, if_neg, Int.toNat_natCast, eq_self, and_true, true_and, bound, w64, natS, natP, u, v, size_mk, x1, y1, x2, y2, he]
    exact ih (n + 1) j (by omega) (by omega)
theorem set_last (S : List Nat) (m v : Nat) : (ints (S ++ [m])).set S.length (v : Int) = ints (S ++ [v]) := by
  rw [ints_set]
  congr 1
  rw [List.set_append_right _ _ (Nat.le_refl _)]
  simp
theorem rbuild_put (h : EqFnR C) {k : Nat} (hk : 11 < k) {l : List (List Nat)} (ho : octs l) (hs : ∀ s, s ∈ l → s.length ≤ 4096) {i b j0 n m : Nat} (hi : i < l.length) (hn : n ≤ l[i].length) {S A B : List Nat} (hS : S.length ≤ 1000000) (hm : m < 1000000000) (hA : A.length ≤ 1000000000) (hB : B.length ≤ 100) :
    RefBuild.e0 C k j0 (strs l) (b : Int) (i : Int) (n : Int) (ints (S ++ [m])) (ints A) (ints B) =
      RefBuild.e2 C k j0 (strs l) (b : Int) (i : Int) (ints (S ++ [m + (B ++ vtext (l[i].drop n)).length])) (ints (A ++ (B ++ vtext (l[i].drop n)))) := by
  have v := strs_get l hi
  have o2 := ho _ (List.getElem_mem hi)
  have s2 := hs _ (List.getElem_mem hi)
  have ht := vtext_len (s := l[i].drop n) (by rw [List.length_drop]; omega)
  rw [List.length_drop] at ht
  have g : (ints (S ++ [m]))[S.length]? = some (m : Int) := by rw [ints_get]; simp
  have gl : ((S.length + 1 : Nat) : Int) - 1 = (S.length : Int) := by omega
  have e1 : (m : Int) + ((B.length + (vtext (l[i].drop n)).length : Nat) : Int) = ((m + (B.length + (vtext (l[i].drop n)).length) : Nat) : Int) := by omega
  rw [RefBuild.e0_eq, if_pos (Int.natCast_nonneg _), Int.toNat_natCast, v]
  simp only
  rw [size_mk, if_pos (by omega), Int.toNat_natCast, Int.toNat_natCast, mk_extract o2, List.take_length, RefText1.q_ok _ (RefText1_spec h (by omega) (octets_drop o2 _) (by rw [List.length_drop]; omega))]
  simp only [ints_append, ints_len, List.length_append, List.length_cons, List.length_nil, Nat.zero_add]
  rw [gl, w64n (by omega), if_pos ⟨by unfold bound; omega, by trivial⟩, if_pos (Int.natCast_nonneg _), if_pos ⟨by omega, by trivial⟩, Int.toNat_natCast, g]
  simp only
  rw [if_pos (Int.natCast_nonneg _), if_pos ⟨by omega, by trivial⟩, if_pos ⟨by unfold bound; omega, by trivial⟩, e1, w64n (by omega), set_last]
theorem rbuild_loop (h : EqFnR C) {k : Nat} (hk : big < k) {l : List (List Nat)} {b : Nat} (hb : 0 < b) (ho : octs l) (hs : ∀ s, s ∈ l → s.length ≤ 4096) (hn : l.length ≤ 100000) : ∀ (d i j : Nat), i + d = l.length → d < j →
    RefBuild.l0 C k j (strs l) (b : Int) (i : Int) (ints (sizes b (l.take i))) (ints (allBytes b (l.take i))) = RefBuild.e1 C k (strs l) (b : Int) (ints (sizes b l)) (ints (allBytes b l)) := by
  unfold big at hk
  intro d
  induction d with
  | zero =>
    intro i j hd hj
    obtain ⟨j, rfl⟩ : ∃ m, j = m + 1 := ⟨j - 1, by omega⟩
    rw [RefBuild.l0_eq, List.take_of_length_le (by omega)]
    simp (disch := omega) only [cond_dec, cond_beq, cond_bne, cond_true, cond_false, Bool.not_true, Bool.not_false, if_pos, if_neg, Int.toNat_natCast, eq_self, and_true, true_and, bound, w64, natS, natP, strs_len]
  | succ d ih =>
    intro i j hd hj
    obtain ⟨j, rfl⟩ : ∃ m, j = m + 1 := ⟨j - 1, by omega⟩
    have hi : i < l.length := by omega
    have htl : (l.take i).length = i := by rw [List.length_take]; omega
    have htk : l.take (i + 1) = l.take i ++ [l[i]] := List.take_succ_eq_append_getElem hi
    obtain ⟨c1, c2⟩ := chunks_snoc hb l[i] i (l.take i) (by omega)
    rw [htl] at c1 c2
    have hsz : (sizes b (l.take i)).length ≤ i := by
      rw [sizes_len hb, htl]
      exact div_up_le hb i
    have hst : ∀ s, s ∈ l.take i → s.length ≤ 4096 := fun s hm => hs s (List.mem_of_mem_take hm)
    have hab := allBytes_len hb hst
    rw [htl] at hab
    have next : ∀ S A, S = sizes b (l.take (i + 1)) → A = allBytes b (l.take (i + 1)) → RefBuild.e2 C k j (strs l) (b : Int) (i : Int) (ints S) (ints A) = RefBuild.e1 C k (strs l) (b : Int) (ints (sizes b l)) (ints (allBytes b l)) := by
      rintro S A rfl rfl
      rw [RefBuild.e2_eq, succ64 (by omega)]
      exact ih (i + 1) j (by omega) (by omega)
    rw [RefBuild.l0_eq, cond_dec, strs_len, if_pos (by omega), if_neg (by omega), show ((i : Int)).tmod (b : Int) = ((i % b : Nat) : Int) from rfl, cond_beq]
    by_cases hm : i % b = 0
    · have e0 : ints (sizes b (l.take i)) ++ [(0 : Int)] = ints (sizes b (l.take i) ++ [0]) := by simp [ints]
      have e00 : ([] : List Int) = ints [] := rfl
      have z0 : (0 : Int) = ((0 : Nat) : Int) := rfl
      rw [if_pos (by omega), if_pos ⟨by rw [ints_len]; simp only [List.length_cons, List.length_nil]; unfold bound; omega, by trivial⟩, e0, e00]
      have p := rbuild_put h (k := k) (by omega) ho hs (j0 := j) (b := b) (n := 0) (m := 0) (S := sizes b (l.take i)) (A := allBytes b (l.take i)) (B := []) hi (by omega) (by omega) (by omega) (by omega) (by simp)
      rw [← z0] at p
      rw [p]
      refine next _ _ ?_ ?_
      · unfold sizes
        rw [htk, c1 hm, List.map_append]
        simp [blk, ents]
      · unfold allBytes
        rw [htk, c1 hm, List.map_append, List.flatten_append]
        simp [blk, ents]
    · obtain ⟨cs, c, d1, d2, d3, d4⟩ := c2 hm
      have h0 : 0 < i := by
        rcases Nat.eq_zero_or_pos i with rfl | h
        · rw [Nat.zero_mod] at hm; exact absurd rfl hm
        · exact h
      have hlast : c.getLast? = some l[i - 1] := by
        rw [d3, List.getLast?_eq_getElem?, htl, List.getElem?_take, if_pos (by omega), List.getElem?_eq_getElem (by omega)]
      have hcm : c ∈ chunks b (l.take i) := by rw [d1]; simp
      obtain ⟨_, m2, m3⟩ := chunks_mem i (l.take i) c (by omega) hcm
      have hcl : (blk c).length ≤ c.length * 4114 := blk_len (fun s hm => hst s (m3 s hm))
      have hcl2 : c.length ≤ i := by
        have := congrArg (fun z => (z.flatten).length) d1
        simp only [chunks_flatten hb i (l.take i) (by omega), htl, List.flatten_append, List.length_append, List.flatten_cons, List.flatten_nil, List.append_nil] at this
        omega
      have hle := lcp_le l[i - 1] l[i]
      have s2 := hs _ (List.getElem_mem hi)
      have hv := vput_len 8 (lcp l[i - 1] l[i]) (by omega)
      have es : sizes b (l.take i) = cs.map (fun c => (blk c).length) ++ [(blk c).length] := by rw [sizes, d1, List.map_append]; rfl
      have hcs : cs.length ≤ i := by
        have := congrArg List.length es
        rw [List.length_append, List.length_map] at this
        omega
      have rs := rshared (C := C) k (l := l) (b := b) (j0 := j) (a4 := ints (sizes b (l.take i))) (a5 := ints (allBytes b (l.take i))) ho hs h0 hi (by omega) (lcp l[i - 1] l[i]) 0 k (by omega) (by omega)
      rw [show ((0 : Nat) : Int) = 0 from rfl] at rs
      rw [if_neg (by omega), rs, RefBuild.e3_eq, RefPut1.q_ok _ (RefPut1_spec h (by omega) (by omega)), es]
      rw [rbuild_put h (k := k) (by omega) ho hs hi (by omega) (by rw [List.length_map]; omega) (by omega) (by omega) (by omega)]
      have eb := blk_snoc d2 l[i] hlast
      refine next _ _ ?_ ?_
      · unfold sizes
        rw [htk, d4, List.map_append]
        simp only [List.map_cons, List.map_nil, eb, List.length_append]
      · unfold allBytes
        rw [htk, d4, d1]
        simp only [List.map_append, List.map_cons, List.map_nil, eb, List.flatten_append, List.flatten_cons, List.flatten_nil, List.append_nil, List.append_assoc]
theorem RefBuild_spec (h : EqFnR C) {k : Nat} (hk : big + 2 < k) {l : List (List Nat)} {b : Nat} (ho : octs l) (hr : Rt l b) :
    ∃ o, Built l b o ∧ C k 29 [.sl false (.strs (strs l)), .int .i64 (b : Int)] = some (.sl true (.ints .u8 (ints o)), []) := by
  obtain ⟨k, rfl⟩ : ∃ m, k = m + 1 := ⟨k - 1, by omega⟩
  have hb := hr.lo
  have hb2 := hr.hi
  have hl := hr.len
  have hsl := sizes_len (k := b) (by omega) l
  have hsz : (sizes b l).length ≤ 4096 := by
    rw [hsl]
    exact Nat.le_trans (div_up_le (by omega) _) hl
  obtain ⟨w, w1, w2⟩ := RefWrite3_spec h (k := k) (by omega) (l := sizes b l) (sizes_lt (by omega) hr.size) (by omega)
  refine ⟨_, ⟨w, w1, rfl⟩, ?_⟩
  have hab := allBytes_len (k := b) (by omega) hr.size
  have hv1 := vput_len 8 l.length (by omega)
  have hv2 := vput_len 8 b (by omega)
  have hwl : w.length ≤ 100000 := by
    obtain ⟨p, p1, rfl⟩ := w1
    have hw := width_le (l := sizes b l) (w := 32) (sizes_lt (k := b) (by omega) hr.size)
    have := vput_len 8 (sizes b l).length (by omega)
    have hm : (sizes b l).length * width (sizes b l) ≤ 4096 * 32 := Nat.mul_le_mul hsz hw
    simp [p1.len]; omega
  have lp := rbuild_loop h (k := k) (by omega) (l := l) (b := b) (by omega) ho hr.size (by omega) l.length 0 k (by omega) (by unfold big at hk; omega)
  have e0 : ints (sizes b (l.take 0)) = [] := by simp [sizes, chunks_nil, ints]
  have e1 : ints (allBytes b (l.take 0)) = [] := by simp [allBytes, chunks_nil, ints]
  rw [e0, e1] at lp
  rw [h.RefBuild, RefBuild.f_eq]
  refine Eq.trans lp ?_
  rw [RefBuild.e1_eq, strs_len, RefPut1.q_ok _ (RefPut1_spec h (by unfold big at hk; omega) (by omega)), RefPut1.q_ok _ (RefPut1_spec h (by unfold big at hk; omega) (by omega)), if_pos ⟨by rw [ints_len, ints_len]; unfold bound; omega, by trivial⟩, RefWrite3.q_ok _ w2,
    if_pos ⟨by rw [List.length_append, ints_len, ints_len, ints_len]; unfold bound; omega, by trivial⟩, if_pos ⟨by simp only [List.length_append, ints_len]; unfold bound; omega, by trivial⟩]
  simp only [ints_append, List.append_assoc]
end Go.Proofs.Ytfkkigbbejhfbaa
