/- Halving a list that rises; seek's Lower, Upper, Code, Prefix, Map. -/
import Derived.Test.YtfkkigbbejhfbaaLwF2
import Derived.Test.YtfkkigbbejhfbaaFnK
namespace Go.Proofs.Ytfkkigbbejhfbaa
open Go Idl
set_option linter.unusedSimpArgs false
set_option linter.unusedVariables false
set_option maxRecDepth 100000
variable {C : Nat → CallF}

/-- how many stand ahead -/
def lead (p : List Nat → Bool) (t : List (List Nat)) : Nat := (t.takeWhile p).length
theorem lead_le (p : List Nat → Bool) : ∀ t, lead p t ≤ t.length
  | [] => Nat.le_refl _
  | x :: t => by
    unfold lead
    rw [List.takeWhile_cons]
    split
    · have := lead_le p t; unfold lead at this; simp; exact this
    · simp
theorem lead_lt (p : List Nat → Bool) : ∀ (t : List (List Nat)) (i : Nat), i < lead p t → p (t.getD i []) = true
  | [], i, h => by simp [lead] at h
  | x :: t, i, h => by
    unfold lead at h
    rw [List.takeWhile_cons] at h
    split at h
    · rename_i hx
      cases i with
      | zero => exact hx
      | succ i => exact lead_lt p t i (by simpa [lead] using h)
    · simp at h
theorem lead_stop (p : List Nat → Bool) : ∀ (t : List (List Nat)), lead p t < t.length → p (t.getD (lead p t) []) = false
  | [], h => by simp at h
  | x :: t, h => by
    unfold lead at h ⊢
    rw [List.takeWhile_cons] at h ⊢
    cases hx : p x with
    | true =>
      rw [hx] at h
      simp only [if_true, List.length_cons] at h ⊢
      exact lead_stop p t (by unfold lead; omega)
    | false => simp [hx]
theorem lead_eq {p : List Nat → Bool} {t : List (List Nat)} {r : Nat} (h1 : r ≤ t.length) (h2 : ∀ i, i < r → p (t.getD i []) = true) (h3 : r < t.length → p (t.getD r []) = false) : lead p t = r := by
  rcases Nat.lt_trichotomy (lead p t) r with h | h | h
  · have := lead_stop p t (by omega)
    rw [h2 _ h] at this; cases this
  · exact h
  · have := lead_lt p t r h
    rw [h3 (by have := lead_le p t; omega)] at this; cases this

theorem search_run {R : Type} {L : Nat → Int → Int → Option R} {e : Nat → Option R} {p : Nat → Bool} {n : Nat} (mono : ∀ i j, i ≤ j → j < n → p i = true → p j = true)
    (hL : ∀ (j lo hi : Nat), lo ≤ hi → hi ≤ n → L (j + 1) (lo : Int) (hi : Int) = if lo < hi then (if p ((lo + hi) / 2) = true then L j (lo : Int) (((lo + hi) / 2 : Nat) : Int) else L j (((lo + hi) / 2 + 1 : Nat) : Int) (hi : Int)) else e lo) :
    ∀ (d lo hi j : Nat), hi - lo ≤ d → d < j → lo ≤ hi → hi ≤ n → (∀ i, i < lo → p i = false) → (∀ i, hi ≤ i → i < n → p i = true) →
      ∃ r, r ≤ n ∧ (∀ i, i < r → p i = false) ∧ (∀ i, r ≤ i → i < n → p i = true) ∧ L j (lo : Int) (hi : Int) = e r := by
  intro d
  induction d with
  | zero =>
    intro lo hi j hd hj hlh hhn h1 h2
    obtain ⟨j, rfl⟩ : ∃ m, j = m + 1 := ⟨j - 1, by omega⟩
    rw [hL j lo hi hlh hhn, if_neg (by omega)]
    exact ⟨lo, by omega, h1, fun i hi' => h2 i (by omega), rfl⟩
  | succ d ih =>
    intro lo hi j hd hj hlh hhn h1 h2
    obtain ⟨j, rfl⟩ : ∃ m, j = m + 1 := ⟨j - 1, by omega⟩
    rw [hL j lo hi hlh hhn]
    by_cases hlt : lo < hi
    · rw [if_pos hlt]
      by_cases hp : p ((lo + hi) / 2) = true
      · rw [if_pos hp]
        exact ih lo ((lo + hi) / 2) j (by omega) (by omega) (by omega) (by omega) h1 (fun i hi1 hi2 => mono _ i hi1 hi2 hp)
      · rw [if_neg hp]
        refine ih ((lo + hi) / 2 + 1) hi j (by omega) (by omega) (by omega) (by omega) (fun i hi1 => ?_) h2
        cases e : p i with
        | false => rfl
        | true => exact absurd (mono i ((lo + hi) / 2) (by omega) (by omega) e) hp
    · rw [if_neg hlt]
      exact ⟨lo, by omega, h1, fun i hi' => h2 i (by omega), rfl⟩

theorem mid64 {a b : Nat} (h : a + b < 1000000000000) : IntKind.i64.wrap ((IntKind.u64.wrap (IntKind.i64.wrap ((a : Int) + (b : Int)))).fdiv (2 ^ (min (1 : Int).toNat IntKind.u64.bits))) = (((a + b) / 2 : Nat) : Int) := by
  rw [show (a : Int) + (b : Int) = ((a + b : Nat) : Int) from by omega, w64n (by omega), wu64 (by omega) (by omega)]
  have := shr_nat (a := a + b) (k := 1) (n := IntKind.u64.bits) (by decide)
  rw [show (1 : Int) = ((1 : Nat) : Int) from rfl, this, Nat.shiftRight_eq_div_pow, w64n (by omega)]

/-! ### what rises -/
theorem climbs_le {t : List (List Nat)} (h : climbs t) {i j : Nat} (hij : i ≤ j) (hj : j < t.length) : lless (t.getD j []) (t.getD i []) = false := by
  rcases Nat.lt_or_ge i j with h1 | h1
  · exact lless_asymm (climbs_getD h h1 hj)
  · have : i = j := by omega
    rw [this]; exact lless_irrefl _
theorem nless_trans {a b c : List Nat} (h1 : lless b a = false) (h2 : lless c b = false) : lless c a = false := by
  cases e : lless c a with
  | false => rfl
  | true =>
    rcases lless_tri b a with h | h | h
    · rw [h] at h1; cases h1
    · subst h; rw [e] at h2; cases h2
    · rw [lless_trans e h] at h2; cases h2
theorem mono_low {t : List (List Nat)} (h : climbs t) (s : List Nat) : ∀ i j, i ≤ j → j < t.length → (!lless (t.getD i []) s) = true → (!lless (t.getD j []) s) = true := by
  intro i j hij hj hi
  simp only [Bool.not_eq_true'] at hi ⊢
  exact nless_trans hi (climbs_le h hij hj)
theorem mono_upp {t : List (List Nat)} (h : climbs t) (s : List Nat) : ∀ i j, i ≤ j → j < t.length → lless s (t.getD i []) = true → lless s (t.getD j []) = true := by
  intro i j hij hj hi
  rcases Nat.lt_or_ge i j with h1 | h1
  · exact lless_trans hi (climbs_getD h h1 hj)
  · have : i = j := by omega
    rw [← this]; exact hi

def low (s : List Nat) (t : List (List Nat)) : Nat := lead (fun x => lless x s) t
def upp (s : List Nat) (t : List (List Nat)) : Nat := lead (fun x => !lless s x) t
def isPre (p a : List Nat) : Bool := decide (a.take p.length = p)

theorem LowF_spec (h : EqFnK C) (hS : EqFnS C) {k : Nat} (hk : 1 < k) {t : List (List Nat)} (ho : octs t) {s : List Nat} (hs : octets s) {i : Nat} (hi : i < t.length) :
    C k 78 [.int .i64 (i : Int), .pv [.pv [.sl false (.strs (strs t))] 0] 0, .pv [.str (mk s)] 0] = some (.bool (!lless (t.getD i []) s), []) := by
  obtain ⟨k, rfl⟩ : ∃ m, k = m + 1 := ⟨k - 1, by omega⟩
  rw [h.LowF, LowF.f_eq, DictAt.s_ok _ _ (DictAt_in hS (by omega) hi), less_mk (ho _ (List.getElem_mem hi)) hs, strs_getD t hi]
theorem upp_bool {a s : List Nat} : (!(lless a s || decide (a = s))) = lless s a := by
  rcases lless_tri a s with h | h | h
  · rw [h, lless_asymm h]; rfl
  · subst h; simp [lless_irrefl]
  · rw [h, lless_asymm h]
    have : a ≠ s := by rintro rfl; rw [lless_irrefl] at h; cases h
    simp [this]
theorem UppF_spec (h : EqFnK C) (hS : EqFnS C) {k : Nat} (hk : 1 < k) {t : List (List Nat)} (ho : octs t) {s : List Nat} (hs : octets s) {i : Nat} (hi : i < t.length) :
    C k 79 [.int .i64 (i : Int), .pv [.pv [.sl false (.strs (strs t))] 0] 0, .pv [.str (mk s)] 0] = some (.bool (lless s (t.getD i [])), []) := by
  obtain ⟨k, rfl⟩ : ∃ m, k = m + 1 := ⟨k - 1, by omega⟩
  rw [h.UppF, UppF.f_eq, DictAt.s_ok _ _ (DictAt_in hS (by omega) hi), less_mk (ho _ (List.getElem_mem hi)) hs, eq_mk (ho _ (List.getElem_mem hi)) hs, strs_getD t hi, upp_bool]

theorem SearchL_spec (h : EqFnK C) (hS : EqFnS C) {k : Nat} (hk : 100000 < k) {t : List (List Nat)} (ho : octs t) (hc : climbs t) (ht : t.length ≤ 5000) {s : List Nat} (hs : octets s) :
    C k 77 [.int .i64 (t.length : Int), .fn 78 [.pv [.pv [.sl false (.strs (strs t))] 0] 0, .pv [.str (mk s)] 0]] = some (.int .i64 (low s t : Nat), []) := by
  obtain ⟨k, rfl⟩ : ∃ m, k = m + 1 := ⟨k - 1, by omega⟩
  rw [h.SearchL, SearchL.f_eq]
  obtain ⟨r, hr, h1, h2, e⟩ := search_run (L := fun j lo hi => SearchL.l0 C k j (strs t) (mk s) lo hi) (e := fun r => some (.int .i64 (r : Int), [])) (p := fun i => !lless (t.getD i []) s) (n := t.length) (mono_low hc s) (fun j lo hi hlh hhn => by
    rw [SearchL.l0_eq, mid64 (by omega)]
    by_cases hlt : lo < hi
    · rw [if_pos hlt]
      simp (disch := omega) only [cond_dec, cond_beq, cond_bne, cond_true, cond_false, Bool.not_true, Bool.not_false, if_pos, if_neg, Int.toNat_natCast, eq_self, and_true, true_and, bound, w64, natS, natP]
      rw [LowF.s_ok _ _ _ (LowF_spec h hS (by omega) ho hs (by omega))]
      cases lless (t.getD ((lo + hi) / 2) []) s <;> simp (disch := omega) only [cond_dec, cond_beq, cond_bne, cond_true, cond_false, Bool.not_true, Bool.not_false, if_pos, if_neg, Int.toNat_natCast, eq_self, and_true, true_and, bound, w64, natS, natP] <;> rfl
    · rw [if_neg hlt]
      simp (disch := omega) only [cond_dec, cond_beq, cond_bne, cond_true, cond_false, Bool.not_true, Bool.not_false, if_pos, if_neg, Int.toNat_natCast, eq_self, and_true, true_and, bound, w64, natS, natP]
      rw [SearchL.e0_eq]) t.length 0 t.length k (by omega) (by omega) (by omega) (by omega) (fun i hi => by omega) (fun i h1 h2 => by omega)
  simp only [Int.natCast_zero] at e
  rw [e]
  have : low s t = r := lead_eq hr (fun i hi => by have := h1 i hi; simpa using this) (fun hi => by have := h2 r (Nat.le_refl _) hi; simpa using this)
  rw [this]
theorem SearchU_spec (h : EqFnK C) (hS : EqFnS C) {k : Nat} (hk : 100000 < k) {t : List (List Nat)} (ho : octs t) (hc : climbs t) (ht : t.length ≤ 5000) {s : List Nat} (hs : octets s) :
    C k 77 [.int .i64 (t.length : Int), .fn 79 [.pv [.pv [.sl false (.strs (strs t))] 0] 0, .pv [.str (mk s)] 0]] = some (.int .i64 (upp s t : Nat), []) := by
  obtain ⟨k, rfl⟩ : ∃ m, k = m + 1 := ⟨k - 1, by omega⟩
  rw [h.SearchU, SearchU.f_eq]
  obtain ⟨r, hr, h1, h2, e⟩ := search_run (L := fun j lo hi => SearchU.l0 C k j (strs t) (mk s) lo hi) (e := fun r => some (.int .i64 (r : Int), [])) (p := fun i => lless s (t.getD i [])) (n := t.length) (mono_upp hc s) (fun j lo hi hlh hhn => by
    rw [SearchU.l0_eq, mid64 (by omega)]
    by_cases hlt : lo < hi
    · rw [if_pos hlt]
      simp (disch := omega) only [cond_dec, cond_beq, cond_bne, cond_true, cond_false, Bool.not_true, Bool.not_false, if_pos, if_neg, Int.toNat_natCast, eq_self, and_true, true_and, bound, w64, natS, natP]
      rw [UppF.s_ok _ _ _ (UppF_spec h hS (by omega) ho hs (by omega))]
      cases lless s (t.getD ((lo + hi) / 2) []) <;> simp (disch := omega) only [cond_dec, cond_beq, cond_bne, cond_true, cond_false, Bool.not_true, Bool.not_false, if_pos, if_neg, Int.toNat_natCast, eq_self, and_true, true_and, bound, w64, natS, natP] <;> rfl
    · rw [if_neg hlt]
      simp (disch := omega) only [cond_dec, cond_beq, cond_bne, cond_true, cond_false, Bool.not_true, Bool.not_false, if_pos, if_neg, Int.toNat_natCast, eq_self, and_true, true_and, bound, w64, natS, natP]
      rw [SearchU.e0_eq]) t.length 0 t.length k (by omega) (by omega) (by omega) (by omega) (fun i hi => by omega) (fun i h1 h2 => by omega)
  simp only [Int.natCast_zero] at e
  rw [e]
  have : upp s t = r := lead_eq hr (fun i hi => by have := h1 i hi; simpa using this) (fun hi => by have := h2 r (Nat.le_refl _) hi; simpa using this)
  rw [this]
theorem SeekLower_spec (h : EqFnK C) (hS : EqFnS C) {k : Nat} (hk : 100001 < k) {t : List (List Nat)} (ho : octs t) (hc : climbs t) (ht : t.length ≤ 5000) {s : List Nat} (hs : octets s) :
    C k 42 [.pv [.sl false (.strs (strs t))] 0, .str (mk s)] = some (.int .i64 (low s t : Nat), []) := by
  obtain ⟨k, rfl⟩ : ∃ m, k = m + 1 := ⟨k - 1, by omega⟩
  rw [h.SeekLower, SeekLower.f_eq, DictLen.s_ok _ (DictLen_spec hS (by omega) _), strs_len, SearchL.s_ok _ _ _ (SearchL_spec h hS (by omega) ho hc ht hs)]
theorem SeekUpper_spec (h : EqFnK C) (hS : EqFnS C) {k : Nat} (hk : 100001 < k) {t : List (List Nat)} (ho : octs t) (hc : climbs t) (ht : t.length ≤ 5000) {s : List Nat} (hs : octets s) :
    C k 43 [.pv [.sl false (.strs (strs t))] 0, .str (mk s)] = some (.int .i64 (upp s t : Nat), []) := by
  obtain ⟨k, rfl⟩ : ∃ m, k = m + 1 := ⟨k - 1, by omega⟩
  rw [h.SeekUpper, SeekUpper.f_eq, DictLen.s_ok _ (DictLen_spec hS (by omega) _), strs_len, SearchU.s_ok _ _ _ (SearchU_spec h hS (by omega) ho hc ht hs)]

theorem low_le (s : List Nat) (t : List (List Nat)) : low s t ≤ t.length := lead_le _ t
theorem upp_le (s : List Nat) (t : List (List Nat)) : upp s t ≤ t.length := lead_le _ t
/-- a string's code: its place, or none -/
def code (s : List Nat) (t : List (List Nat)) : Option Nat := if low s t < t.length ∧ t.getD (low s t) [] = s then some (low s t) else none
def codeV (c : Option Nat) : V := match c with | some i => .tup [.int .i64 (i : Int), .bool true] | none => .tup [.int .i64 0, .bool false]
theorem SeekCode_spec (h : EqFnK C) (hS : EqFnS C) {k : Nat} (hk : 100002 < k) {t : List (List Nat)} (ho : octs t) (hc : climbs t) (ht : t.length ≤ 5000) {s : List Nat} (hs : octets s) :
    C k 41 [.pv [.sl false (.strs (strs t))] 0, .str (mk s)] = some (codeV (code s t), []) := by
  obtain ⟨k, rfl⟩ : ∃ m, k = m + 1 := ⟨k - 1, by omega⟩
  have hle := low_le s t
  rw [h.SeekCode, SeekCode.f_eq, SeekLower.s_ok _ _ (SeekLower_spec h hS (by omega) ho hc ht hs), DictLen.s_ok _ (DictLen_spec hS (by omega) _), strs_len]
  unfold code
  by_cases e : low s t < t.length
  · simp (disch := omega) only [cond_dec, cond_beq, cond_bne, cond_true, cond_false, Bool.not_true, Bool.not_false, if_pos, if_neg, Int.toNat_natCast, eq_self, and_true, true_and, bound, w64, natS, natP]
    rw [DictAt.s_ok _ _ (DictAt_in hS (by omega) e), eq_mk (ho _ (List.getElem_mem e)) hs, strs_getD t e]
    by_cases he : t[low s t] = s
    · rw [if_pos ⟨e, he⟩]; simp [he, codeV]
    · rw [if_neg (fun h => he h.2)]; simp [he, codeV]
  · rw [if_neg (fun h => e h.1)]
    simp (disch := omega) only [cond_dec, cond_beq, cond_bne, cond_true, cond_false, Bool.not_true, Bool.not_false, if_pos, if_neg, Int.toNat_natCast, eq_self, and_true, true_and, bound, w64, natS, natP]
    rfl

theorem HasPre_spec (h : EqFnK C) {k : Nat} (hk : 1 < k) {a p : List Nat} (ha : octets a) (hp : octets p) :
    C k 45 [.str (mk a), .str (mk p)] = some (.bool (isPre p a), []) := by
  obtain ⟨k, rfl⟩ : ∃ m, k = m + 2 := ⟨k - 2, by omega⟩
  have e : C (k + 1) 81 [.str (mk a), .str (mk p)] = some (.bool (isPre p a), []) := by
    rw [h.HasPreL, HasPreL.f_eq]
    by_cases hl : p.length ≤ a.length
    · simp (disch := omega) only [cond_dec, cond_beq, cond_bne, cond_true, cond_false, Bool.not_true, Bool.not_false, if_pos, if_neg, Int.toNat_natCast, eq_self, and_true, true_and, bound, w64, natS, natP, size_mk, mk_extract ha, show ((0 : Int)).toNat = 0 from rfl, List.drop_zero, eq_mk (octets_take ha p.length) hp, isPre]
    · have : ¬ (a.take p.length = p) := fun e => by have := congrArg List.length e; rw [List.length_take] at this; omega
      simp (disch := omega) only [cond_dec, cond_beq, cond_bne, cond_true, cond_false, Bool.not_true, Bool.not_false, if_pos, if_neg, Int.toNat_natCast, eq_self, and_true, true_and, bound, w64, natS, natP, size_mk, isPre, decide_eq_false this]
  rw [h.HasPre, HasPre.f_eq, HasPreL.s_ok _ _ e]

theorem pre_mono : ∀ {p x y : List Nat}, lless x p = false → lless x y = true → isPre p y = true → isPre p x = true
  | [], x, y, _, _, _ => by simp [isPre]
  | c :: p, x, [], _, h2, _ => by cases x <;> simp [lless] at h2
  | c :: p, [], d :: y, h1, _, _ => by simp [lless] at h1
  | c :: p, e :: x, d :: y, h1, h2, h3 => by
    simp only [isPre, List.length_cons, List.take_succ_cons, List.cons.injEq, decide_eq_true_eq] at h3
    obtain ⟨rfl, h3⟩ := h3
    simp only [lless, Bool.or_eq_false_iff, decide_eq_false_iff_not, Bool.and_eq_false_iff, Bool.or_eq_true, decide_eq_true_eq, Bool.and_eq_true] at h1 h2
    have hed : e = d := by rcases h2 with h | h <;> omega
    subst hed
    have h1' : lless x p = false := by rcases h1.2 with h | h; exact absurd rfl h; exact h
    have h2' : lless x y = true := by rcases h2 with h | h; omega; exact h.2
    have := pre_mono h1' h2' (by simp [isPre, h3])
    simp only [isPre, decide_eq_true_eq] at this
    simp [isPre, this]
/-- how many of those from Lower on begin so -/
def pre (p : List Nat) (t : List (List Nat)) : Nat := lead (isPre p) (t.drop (low p t))
theorem getD_drop (t : List (List Nat)) (n i : Nat) : (t.drop n).getD i [] = t.getD (n + i) [] := by simp [List.getD_eq_getElem?_getD]
theorem low_ge {p : List Nat} {t : List (List Nat)} (hc : climbs t) {i : Nat} (h1 : low p t ≤ i) (h2 : i < t.length) : lless (t.getD i []) p = false := by
  have := lead_stop (fun x => lless x p) t (by have : lead (fun x => lless x p) t = low p t := rfl; omega)
  exact nless_trans this (climbs_le hc h1 h2)
theorem SearchP_spec (h : EqFnK C) (hS : EqFnS C) {k : Nat} (hk : 100000 < k) {t : List (List Nat)} (ho : octs t) (hc : climbs t) (ht : t.length ≤ 5000) {p : List Nat} (hp : octets p) :
    C k 77 [.int .i64 ((t.length - low p t : Nat) : Int), .fn 80 [.pv [.pv [.sl false (.strs (strs t))] 0] 0, .pv [.int .i64 (low p t : Nat)] 0, .pv [.str (mk p)] 0]] = some (.int .i64 (pre p t : Nat), []) := by
  obtain ⟨k, rfl⟩ : ∃ m, k = m + 1 := ⟨k - 1, by omega⟩
  have hle := low_le p t
  rw [h.SearchP, SearchP.f_eq]
  obtain ⟨r, hr, h1, h2, e⟩ := search_run (L := fun j lo hi => SearchP.l0 C k j (strs t) (low p t : Nat) (mk p) lo hi) (e := fun r => some (.int .i64 (r : Int), [])) (p := fun i => !isPre p (t.getD (low p t + i) [])) (n := t.length - low p t)
    (fun i j hij hj hi => by
      simp only [Bool.not_eq_true'] at hi ⊢
      cases e : isPre p (t.getD (low p t + j) []) with
      | false => rfl
      | true =>
        rcases Nat.lt_or_ge i j with hlt | hge
        · rw [pre_mono (low_ge hc (Nat.le_add_right _ _) (by omega)) (climbs_getD hc (show low p t + i < low p t + j by omega) (by omega)) e] at hi
          cases hi
        · have : i = j := by omega
          rw [this, e] at hi; cases hi)
    (fun j lo hi hlh hhn => by
      rw [SearchP.l0_eq, mid64 (by omega)]
      by_cases hlt : lo < hi
      · rw [if_pos hlt]
        have hm : low p t + (lo + hi) / 2 < t.length := by omega
        have e : C k 80 [.int .i64 (((lo + hi) / 2 : Nat) : Int), .pv [.pv [.sl false (.strs (strs t))] 0] 0, .pv [.int .i64 (low p t : Nat)] 0, .pv [.str (mk p)] 0] = some (.bool (!isPre p (t.getD (low p t + (lo + hi) / 2) [])), []) := by
          obtain ⟨k, rfl⟩ : ∃ m, k = m + 1 := ⟨k - 1, by omega⟩
          rw [h.PreF, PreF.f_eq, show ((low p t : Nat) : Int) + (((lo + hi) / 2 : Nat) : Int) = ((low p t + (lo + hi) / 2 : Nat) : Int) from by omega, w64n (by omega),
            DictAt.s_ok _ _ (DictAt_in hS (by omega) hm), HasPre.s_ok _ _ (HasPre_spec h (by omega) (ho _ (List.getElem_mem hm)) hp), strs_getD t hm]
        simp (disch := omega) only [cond_dec, cond_beq, cond_bne, cond_true, cond_false, Bool.not_true, Bool.not_false, if_pos, if_neg, Int.toNat_natCast, eq_self, and_true, true_and, bound, w64, natS, natP]
        rw [PreF.s_ok _ _ _ _ e]
        cases isPre p (t.getD (low p t + (lo + hi) / 2) []) <;> simp (disch := omega) only [cond_dec, cond_beq, cond_bne, cond_true, cond_false, Bool.not_true, Bool.not_false, if_pos, if_neg, Int.toNat_natCast, eq_self, and_true, true_and, bound, w64, natS, natP] <;> rfl
      · rw [if_neg hlt]
        simp (disch := omega) only [cond_dec, cond_beq, cond_bne, cond_true, cond_false, Bool.not_true, Bool.not_false, if_pos, if_neg, Int.toNat_natCast, eq_self, and_true, true_and, bound, w64, natS, natP]
        rw [SearchP.e0_eq]) (t.length - low p t) 0 (t.length - low p t) k (by omega) (by omega) (by omega) (by omega) (fun i hi => by omega) (fun i h1 h2 => by omega)
  simp only [Int.natCast_zero] at e
  rw [e]
  have : pre p t = r := lead_eq (by rw [List.length_drop]; exact hr) (fun i hi => by rw [getD_drop]; have := h1 i hi; simpa using this) (fun hi => by rw [getD_drop]; have := h2 r (Nat.le_refl _) (by rw [List.length_drop] at hi; exact hi); simpa using this)
  rw [this]
theorem pre_le (p : List Nat) (t : List (List Nat)) : low p t + pre p t ≤ t.length := by
  have h1 := lead_le (isPre p) (t.drop (low p t))
  have h2 := low_le p t
  rw [List.length_drop] at h1
  unfold pre; omega
theorem SeekPrefix_spec (h : EqFnK C) (hS : EqFnS C) {k : Nat} (hk : 100002 < k) {t : List (List Nat)} (ho : octs t) (hc : climbs t) (ht : t.length ≤ 5000) {p : List Nat} (hp : octets p) :
    C k 44 [.pv [.sl false (.strs (strs t))] 0, .str (mk p)] = some (.tup [.int .i64 (low p t : Nat), .int .i64 ((low p t + pre p t : Nat) : Int)], []) := by
  obtain ⟨k, rfl⟩ : ∃ m, k = m + 1 := ⟨k - 1, by omega⟩
  have hle := pre_le p t
  rw [h.SeekPrefix, SeekPrefix.f_eq, SeekLower.s_ok _ _ (SeekLower_spec h hS (by omega) ho hc ht hp), SeekPrefix.e0_eq, DictLen.s_ok _ (DictLen_spec hS (by omega) _), strs_len,
    show (t.length : Int) - ((low p t : Nat) : Int) = ((t.length - low p t : Nat) : Int) from by have := low_le p t; omega, w64n (by omega), SearchP.s_ok _ _ _ _ (SearchP_spec h hS (by omega) ho hc ht hp),
    show ((low p t : Nat) : Int) + ((pre p t : Nat) : Int) = ((low p t + pre p t : Nat) : Int) from by omega, w64n (by omega)]
end Go.Proofs.Ytfkkigbbejhfbaa
