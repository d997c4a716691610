/- The reference's sorted lists. -/
import Derived.Test.YtfkkigbbejhfbaaSpS2
namespace Go.Proofs.Ytfkkigbbejhfbaa
open Go Idl
set_option linter.unusedSimpArgs false
set_option linter.unusedVariables false
set_option maxRecDepth 100000
variable {C : Nat → CallF}

/-- a string, put into a list that rises, if it isn't there -/
def ins (s : List Nat) : List (List Nat) → List (List Nat)
  | [] => [s]
  | x :: r => if lless x s = true then x :: ins s r else if x = s then x :: r else s :: x :: r
def sorted (l : List (List Nat)) : List (List Nat) := l.foldl (fun o s => ins s o) []
/-- how many strings at the beginning are less -/
def pos (s : List Nat) : List (List Nat) → Nat
  | [] => 0
  | x :: r => if lless x s = true then pos s r + 1 else 0
theorem pos_le (s : List Nat) : ∀ l, pos s l ≤ l.length
  | [] => Nat.le_refl _
  | x :: r => by
    have := pos_le s r
    unfold pos; split <;> simp <;> omega
theorem pos_less (s : List Nat) : ∀ (l : List (List Nat)) (i : Nat), i < pos s l → lless (l.getD i []) s = true
  | [], i, h => by simp [pos] at h
  | x :: r, i, h => by
    unfold pos at h
    split at h
    · cases i with
      | zero => simpa
      | succ i => simpa using pos_less s r i (by omega)
    · omega
theorem pos_stop (s : List Nat) : ∀ (l : List (List Nat)), pos s l < l.length → lless (l.getD (pos s l) []) s = false
  | [], h => by simp at h
  | x :: r, h => by
    by_cases e : lless x s = true
    · have h1 : pos s (x :: r) = pos s r + 1 := by simp [pos, e]
      rw [h1] at h ⊢
      simpa using pos_stop s r (by simpa using h)
    · have h1 : pos s (x :: r) = 0 := by simp [pos, e]
      rw [h1]
      simpa using e
theorem ins_same (s : List Nat) : ∀ (l : List (List Nat)), pos s l < l.length → l.getD (pos s l) [] = s → ins s l = l
  | [], h, _ => by simp at h
  | x :: r, h, he => by
    by_cases e : lless x s = true
    · have h1 : pos s (x :: r) = pos s r + 1 := by simp [pos, e]
      rw [h1] at h he
      have := ins_same s r (by simpa using h) (by simpa using he)
      simp [ins, e, this]
    · have h1 : pos s (x :: r) = 0 := by simp [pos, e]
      rw [h1] at he
      simp at he
      simp [ins, he, lless_irrefl]
theorem ins_new (s : List Nat) : ∀ (l : List (List Nat)), ¬ (pos s l < l.length ∧ l.getD (pos s l) [] = s) → ins s l = (l.take (pos s l) ++ [s]) ++ l.drop (pos s l)
  | [], h => rfl
  | x :: r, h => by
    by_cases e : lless x s = true
    · have h1 : pos s (x :: r) = pos s r + 1 := by simp [pos, e]
      rw [h1] at h ⊢
      have := ins_new s r (by simpa using h)
      simp [ins, e, this]
    · have h1 : pos s (x :: r) = 0 := by simp [pos, e]
      rw [h1] at h ⊢
      have hx : ¬ x = s := by simpa using h
      simp [ins, e, hx]
theorem ins_mem (s x : List Nat) : ∀ (l : List (List Nat)), x ∈ ins s l ↔ x = s ∨ x ∈ l
  | [] => by simp [ins]
  | y :: r => by
    unfold ins
    split
    · simp only [List.mem_cons, ins_mem s x r]
      constructor
      · rintro (h | h | h)
        · exact .inr (.inl h)
        · exact .inl h
        · exact .inr (.inr h)
      · rintro (h | h | h)
        · exact .inr (.inl h)
        · exact .inl h
        · exact .inr (.inr h)
    · split
      · rename_i h; subst h; simp
      · simp
theorem ins_len (s : List Nat) : ∀ (l : List (List Nat)), (ins s l).length ≤ l.length + 1
  | [] => by simp [ins]
  | y :: r => by
    have := ins_len s r
    unfold ins
    split
    · simp; omega
    · split <;> simp
theorem sorted_from (l : List (List Nat)) : ∀ (o : List (List Nat)) (x : List Nat), x ∈ l.foldl (fun o s => ins s o) o ↔ x ∈ l ∨ x ∈ o := by
  induction l with
  | nil => intro o x; simp
  | cons y l ih =>
    intro o x
    rw [List.foldl_cons, ih, ins_mem, List.mem_cons]
    constructor
    · rintro (h | h | h)
      · exact .inl (.inr h)
      · exact .inl (.inl h)
      · exact .inr h
    · rintro ((h | h) | h)
      · exact .inr (.inl h)
      · exact .inl h
      · exact .inr (.inr h)
theorem sorted_mem (l : List (List Nat)) (x : List Nat) : x ∈ sorted l ↔ x ∈ l := by
  rw [sorted, sorted_from]; simp
theorem sorted_len (l : List (List Nat)) : (sorted l).length ≤ l.length := by
  have : ∀ (l o : List (List Nat)), (l.foldl (fun o s => ins s o) o).length ≤ o.length + l.length := by
    intro l
    induction l with
    | nil => intro o; simp
    | cons y l ih =>
      intro o
      have h1 := ih (ins y o)
      have h2 := ins_len y o
      rw [List.foldl_cons, List.length_cons]; omega
  simpa [sorted] using this l []
def climbs (l : List (List Nat)) : Prop := l.Pairwise (fun a b => lless a b = true)
theorem ins_climbs (s : List Nat) : ∀ (l : List (List Nat)), climbs l → climbs (ins s l)
  | [], _ => by simp [ins, climbs]
  | x :: r, h => by
    obtain ⟨h1, h2⟩ := List.pairwise_cons.1 h
    unfold ins
    split
    · rename_i e
      refine List.pairwise_cons.2 ⟨fun y hy => ?_, ins_climbs s r h2⟩
      rcases (ins_mem s y r).1 hy with rfl | hy
      · exact e
      · exact h1 y hy
    · rename_i e
      split
      · exact h
      · rename_i hne
        have hs : lless s x = true := by
          rcases lless_tri x s with h | h | h
          · exact absurd h e
          · exact absurd h hne
          · exact h
        refine List.pairwise_cons.2 ⟨fun y hy => ?_, h⟩
        rcases List.mem_cons.1 hy with rfl | hy
        · exact hs
        · exact lless_trans hs (h1 y hy)
theorem sorted_climbs (l : List (List Nat)) : climbs (sorted l) := by
  have : ∀ (l o : List (List Nat)), climbs o → climbs (l.foldl (fun o s => ins s o) o) := by
    intro l
    induction l with
    | nil => intro o h; exact h
    | cons y l ih => intro o h; exact ih _ (ins_climbs y o h)
  exact this l [] List.Pairwise.nil
/-- lists that climb and have the same strings are the same -/
theorem climbs_eq : ∀ {a b : List (List Nat)}, climbs a → climbs b → (∀ x, x ∈ a ↔ x ∈ b) → a = b
  | [], [], _, _, _ => rfl
  | [], y :: b, _, _, h => absurd ((h y).2 (by simp)) (by simp)
  | x :: a, [], _, _, h => absurd ((h x).1 (by simp)) (by simp)
  | x :: a, y :: b, ha, hb, h => by
    obtain ⟨a1, a2⟩ := List.pairwise_cons.1 ha
    obtain ⟨b1, b2⟩ := List.pairwise_cons.1 hb
    have hxy : x = y := by
      rcases List.mem_cons.1 ((h x).1 (by simp)) with e | hx
      · exact e
      · rcases List.mem_cons.1 ((h y).2 (by simp)) with e | hy
        · exact e.symm
        · have h1 := b1 x hx
          have h2 := a1 y hy
          rw [lless_asymm h1] at h2; cases h2
    subst hxy
    rw [climbs_eq a2 b2 (fun z => ?_)]
    have hz := h z
    simp only [List.mem_cons] at hz
    constructor
    · intro hm
      rcases hz.1 (.inr hm) with rfl | hm'
      · have := a1 _ hm; rw [lless_irrefl] at this; cases this
      · exact hm'
    · intro hm
      rcases hz.2 (.inr hm) with rfl | hm'
      · have := b1 _ hm; rw [lless_irrefl] at this; cases this
      · exact hm'
theorem climbs_getD {l : List (List Nat)} (h : climbs l) {i j : Nat} (hij : i < j) (hj : j < l.length) : lless (l.getD i []) (l.getD j []) = true := by
  rw [strs_getD l hj, strs_getD l (by omega)]
  exact List.pairwise_iff_getElem.1 h i j (by omega) hj hij
theorem rises_climbs {l : List (List Nat)} (h : rises l) : climbs l := by
  refine List.pairwise_iff_getElem.2 (fun i j hi hj hij => ?_)
  have : ∀ d, i + 1 + d < l.length → lless (l.getD i []) (l.getD (i + 1 + d) []) = true := by
    intro d
    induction d with
    | zero => intro hd; exact h (i + 1) (by omega) hd
    | succ d ih => intro hd; exact lless_trans (ih (by omega)) (by have := h (i + 1 + (d + 1)) (by omega) hd; rwa [show i + 1 + (d + 1) - 1 = i + 1 + d by omega] at this)
  have := this (j - i - 1) (by omega)
  rw [show i + 1 + (j - i - 1) = j by omega, strs_getD l hi, strs_getD l hj] at this
  exact this

/-! ### the loops -/
theorem sorted_at (h : EqFnR C) {k : Nat} (hk : big < k) {l o : List (List Nat)} (hl : octs l) (ho : octs o) {i j0 : Nat} (hi : i < l.length) (hs : ∀ s, s ∈ o → s.length ≤ 1000000) (hn : o.length ≤ 1000000) : ∀ (d p j : Nat), p + d = pos l[i] o → d < j →
    RefSorted.l1 C k j j0 (strs l) (strs o) (i : Int) (p : Int) = RefSorted.e1 C k j0 (strs l) (strs o) (i : Int) ((pos l[i] o : Nat) : Int) := by
  have hp := pos_le l[i] o
  have u := strs_get l hi
  intro d
  induction d with
  | zero =>
    intro p j hd hj
    obtain ⟨j, rfl⟩ : ∃ m, j = m + 1 := ⟨j - 1, by omega⟩
    obtain rfl : p = pos l[i] o := by omega
    rw [RefSorted.l1_eq]
    by_cases e : pos l[i] o < o.length
    · have v := strs_get o e
      have hst := pos_stop l[i] o e
      rw [strs_getD o e] at hst
      simp (disch := omega) only [cond_dec, cond_beq, cond_bne, cond_true, cond_false, Bool.not_true, Bool.not_false, if_pos, if_neg, Int.toNat_natCast, eq_self, and_true, true_and, bound, w64, natS, natP, strs_len, u, v]
      rw [RefCompare.s_ok _ _ (RefCompare_spec h hk (ho _ (List.getElem_mem _)) (hl _ (List.getElem_mem _)) (by have := hs _ (List.getElem_mem e); omega)), if_neg (by have := lcmp_ge.2 hst; omega)]
    · simp (disch := omega) only [cond_dec, cond_beq, cond_bne, cond_true, cond_false, Bool.not_true, Bool.not_false, if_pos, if_neg, Int.toNat_natCast, eq_self, and_true, true_and, bound, w64, natS, natP, strs_len]
  | succ d ih =>
    intro p j hd hj
    obtain ⟨j, rfl⟩ : ∃ m, j = m + 1 := ⟨j - 1, by omega⟩
    have e : p < o.length := by omega
    have v := strs_get o e
    have hst := pos_less l[i] o p (by omega)
    rw [strs_getD o e] at hst
    rw [RefSorted.l1_eq]
    simp (disch := omega) only [cond_dec, cond_beq, cond_bne, cond_true, cond_false, Bool.not_true, Bool.not_false, if_pos, if_neg, Int.toNat_natCast, eq_self, and_true, true_and, bound, w64, natS, natP, strs_len, u, v]
    rw [RefCompare.s_ok _ _ (RefCompare_spec h hk (ho _ (List.getElem_mem _)) (hl _ (List.getElem_mem _)) (by have := hs _ (List.getElem_mem e); omega)), if_pos (lcmp_lt.2 hst)]
    exact ih (p + 1) j (by omega) (by omega)
theorem strs_take (l : List (List Nat)) (n : Nat) : (strs l).take n = strs (l.take n) := by simp [strs, List.map_take]
theorem strs_drop (l : List (List Nat)) (n : Nat) : (strs l).drop n = strs (l.drop n) := by simp [strs, List.map_drop]
theorem strs_one (s : List Nat) : [mk s] = strs [s] := rfl
theorem sorted_put (k : Nat) {l o : List (List Nat)} (hl : octs l) (ho : octs o) {i j0 : Nat} (hi : i < l.length) (hn : o.length ≤ 1000000) :
    RefSorted.e1 C k j0 (strs l) (strs o) (i : Int) ((pos l[i] o : Nat) : Int) = RefSorted.e2 C k j0 (strs l) (strs (ins l[i] o)) (i : Int) := by
  have hp := pos_le l[i] o
  have u := strs_get l hi
  have z : ((0 : Int)).toNat = 0 := rfl
  have new : ¬ (pos l[i] o < o.length ∧ o.getD (pos l[i] o) [] = l[i]) → (strs (o.take (pos l[i] o)) ++ [mk l[i]]) ++ strs (o.drop (pos l[i] o)) = strs (ins l[i] o) := by
    intro hne
    rw [ins_new l[i] o hne, strs_one, strs_append, strs_append]
  have t1 : o.take o.length = o := List.take_length
  rw [RefSorted.e1_eq]
  by_cases e : pos l[i] o < o.length
  · have v := strs_get o e
    by_cases he : o[pos l[i] o] = l[i]
    · simp (disch := omega) only [cond_dec, cond_beq, cond_bne, cond_true, cond_false, Bool.not_true, Bool.not_false, if_pos, if_neg, Int.toNat_natCast, eq_self, and_true, true_and, bound, w64, natS, natP, strs_len, u, v, eq_mk (ho _ (List.getElem_mem e)) (hl _ (List.getElem_mem hi)), decide_eq_true he]
      rw [ins_same l[i] o e (by rw [strs_getD o e]; exact he)]
    · have := new (fun hc => he (by rw [strs_getD o e] at hc; exact hc.2))
      simp (disch := omega) only [cond_dec, cond_beq, cond_bne, cond_true, cond_false, Bool.not_true, Bool.not_false, if_pos, if_neg, Int.toNat_natCast, eq_self, and_true, true_and, bound, w64, natS, natP, strs_len, u, v, eq_mk (ho _ (List.getElem_mem e)) (hl _ (List.getElem_mem hi)), decide_eq_false he, z, List.drop_zero, List.nil_append, strs_take, strs_drop, t1, List.length_append, List.length_cons, List.length_nil, List.length_take, List.length_drop]
      rw [this]
  · have := new (fun hc => e hc.1)
    simp (disch := omega) only [cond_dec, cond_beq, cond_bne, cond_true, cond_false, Bool.not_true, Bool.not_false, if_pos, if_neg, Int.toNat_natCast, eq_self, and_true, true_and, bound, w64, natS, natP, strs_len, u, z, List.drop_zero, List.nil_append, strs_take, strs_drop, t1, List.length_append, List.length_cons, List.length_nil, List.length_take, List.length_drop]
    rw [this]
theorem sorted_loop (h : EqFnR C) {k : Nat} (hk : big < k) {l : List (List Nat)} (hl : octs l) (hs : ∀ s, s ∈ l → s.length ≤ 1000000) (hn : l.length ≤ 100000) : ∀ (d i j : Nat), i + d = l.length → d < j →
    RefSorted.l0 C k j (strs l) (strs (sorted (l.take i))) (i : Int) = some (.sl false (.strs (strs (sorted l))), []) := by
  intro d
  induction d with
  | zero =>
    intro i j hd hj
    obtain ⟨j, rfl⟩ : ∃ m, j = m + 1 := ⟨j - 1, by omega⟩
    rw [RefSorted.l0_eq, List.take_of_length_le (by omega)]
    simp (disch := omega) only [cond_dec, cond_beq, cond_bne, cond_true, cond_false, Bool.not_true, Bool.not_false, if_pos, if_neg, Int.toNat_natCast, eq_self, and_true, true_and, bound, w64, natS, natP, strs_len]
    rw [RefSorted.e0_eq]
  | succ d ih =>
    intro i j hd hj
    obtain ⟨j, rfl⟩ : ∃ m, j = m + 1 := ⟨j - 1, by omega⟩
    have hi : i < l.length := by omega
    have hle := sorted_len (l.take i)
    rw [List.length_take] at hle
    have mem : ∀ s, s ∈ sorted (l.take i) → s ∈ l := fun s hm => List.mem_of_mem_take ((sorted_mem _ s).1 hm)
    rw [RefSorted.l0_eq]
    simp (disch := omega) only [cond_dec, cond_beq, cond_bne, cond_true, cond_false, Bool.not_true, Bool.not_false, if_pos, if_neg, Int.toNat_natCast, eq_self, and_true, true_and, bound, w64, natS, natP, strs_len]
    have ho : octs (sorted (l.take i)) := fun s hm => hl s (mem s hm)
    have a1 := sorted_at h hk hl ho hi (j0 := j) (fun s hm => hs s (mem s hm)) (by omega) (pos l[i] (sorted (l.take i))) 0 k (by omega) (by have := pos_le l[i] (sorted (l.take i)); unfold big at hk; omega)
    rw [show ((0 : Nat) : Int) = 0 from rfl] at a1
    rw [a1, sorted_put k hl ho hi (by omega), RefSorted.e2_eq, succ64 (by omega)]
    have e : ins l[i] (sorted (l.take i)) = sorted (l.take (i + 1)) := by
      rw [List.take_succ_eq_append_getElem hi]
      unfold sorted
      rw [List.foldl_append]; rfl
    rw [e]
    exact ih (i + 1) j (by omega) (by omega)
theorem RefSorted_spec (h : EqFnR C) {k : Nat} (hk : big + 1 < k) {l : List (List Nat)} (hl : octs l) (hs : ∀ s, s ∈ l → s.length ≤ 1000000) (hn : l.length ≤ 100000) :
    C k 35 [.sl false (.strs (strs l))] = some (.sl false (.strs (strs (sorted l))), []) := by
  obtain ⟨k, rfl⟩ : ∃ m, k = m + 1 := ⟨k - 1, by omega⟩
  rw [h.RefSorted, RefSorted.f_eq]
  exact sorted_loop h (by omega) hl hs hn l.length 0 k (by omega) (by unfold big at hk; omega)
end Go.Proofs.Ytfkkigbbejhfbaa
