/- Strings as lists of numbers: what the printed equations say of them. -/
import Derived.Test.YtfkkigbbejhfbaaNum
namespace Go.Proofs.Ytfkkigbbejhfbaa
open Go Idl
set_option linter.unusedSimpArgs false
set_option linter.unusedVariables false

/-- a string's bytes -/
def sb (s : ByteArray) : List Nat := s.data.toList.map UInt8.toNat
/-- the string of bytes -/
def mk (l : List Nat) : ByteArray := ⟨(l.map UInt8.ofNat).toArray⟩
theorem sb_len (s : ByteArray) : (sb s).length = s.size := by rw [sb, List.length_map]; exact Array.length_toList
theorem sb_octets (s : ByteArray) : octets (sb s) := by
  intro x hx
  obtain ⟨b, _, rfl⟩ := List.mem_map.1 hx
  exact b.toNat_lt
theorem strBytes_sb (s : ByteArray) : strBytes s = ints (sb s) := by
  unfold strBytes ints sb
  rw [List.map_map]; rfl
theorem sb_mk {l : List Nat} (h : octets l) : sb (mk l) = l := by
  unfold sb mk
  simp only [List.map_map]
  conv => rhs; rw [← List.map_id l]
  refine List.map_congr_left (fun x hx => ?_)
  have := h x hx
  simp only [Function.comp_apply, UInt8.toNat_ofNat', id_eq]
  omega
theorem sb_inj {a b : ByteArray} (h : sb a = sb b) : a = b := by
  have h1 : a.data.toList = b.data.toList := by
    have := congrArg (List.map UInt8.ofNat) h
    simpa [sb, Function.comp_def] using this
  cases a; cases b
  congr 1
  exact Array.ext' h1
theorem mk_sb (s : ByteArray) : mk (sb s) = s := sb_inj (sb_mk (sb_octets s))
theorem mk_inj {a b : List Nat} (ha : octets a) (hb : octets b) (h : mk a = mk b) : a = b := by rw [← sb_mk ha, ← sb_mk hb, h]
theorem bytesStr_ints (l : List Nat) : bytesStr (ints l) = mk l := by
  unfold bytesStr mk ints
  rw [List.map_map]
  rfl
theorem sb_empty : sb ByteArray.empty = [] := rfl
theorem sb_nil {s : ByteArray} : sb s = [] ↔ s.size = 0 := by rw [← sb_len, List.length_eq_zero_iff]
theorem eq_str (a b : ByteArray) : (a.toList == b.toList) = decide (a = b) := by
  rw [ByteArray.toList_eq, ByteArray.toList_eq]
  by_cases h : a = b
  · subst h; simp
  · rw [decide_eq_false h]
    rw [beq_eq_false_iff_ne]
    intro e
    exact h (sb_inj (by unfold sb; rw [e]))
theorem sb_append (a b : ByteArray) : sb (a ++ b) = sb a ++ sb b := by
  unfold sb
  rw [ByteArray.data_append]; simp
theorem sb_extract (a : ByteArray) (i j : Nat) : sb (a.extract i j) = ((sb a).take j).drop i := by
  unfold sb
  rw [ByteArray.data_extract]
  simp [List.map_drop, List.map_take, List.extract_eq_take_drop, List.drop_take]
theorem sb_get {s : ByteArray} {i : Nat} (h : i < s.size) : ∃ b : UInt8, s.data.toList[i]? = some b ∧ b.toNat = (sb s).getD i 0 := by
  have hl : i < s.data.toList.length := by rw [Array.length_toList]; exact h
  refine ⟨s.data.toList[i], List.getElem?_eq_getElem hl, ?_⟩
  rw [sb, List.getD_eq_getElem?_getD, List.getElem?_map, List.getElem?_eq_getElem hl]; rfl
theorem getD_get {l : List Nat} {i : Nat} (h : i < l.length) : l.getD i 0 = l[i] := by
  rw [List.getD_eq_getElem?_getD, List.getElem?_eq_getElem h]; rfl

/-- how many numbers two lists share at the beginning -/
def lcp : List Nat → List Nat → Nat
  | x :: a, y :: b => if x = y then lcp a b + 1 else 0
  | _, _ => 0
theorem lcp_le : ∀ (a b : List Nat), lcp a b ≤ a.length ∧ lcp a b ≤ b.length
  | [], b => by simp [lcp]
  | x :: a, [] => by simp [lcp]
  | x :: a, y :: b => by
    have := lcp_le a b
    unfold lcp
    split <;> simp <;> omega
theorem lcp_take : ∀ (a b : List Nat), a.take (lcp a b) = b.take (lcp a b)
  | [], b => by simp [lcp]
  | x :: a, [] => by simp [lcp]
  | x :: a, y :: b => by
    unfold lcp
    split
    · rename_i h; subst h; simp only [List.take_succ_cons]; rw [lcp_take a b]
    · simp
/-- less, number by number -/
def lless : List Nat → List Nat → Bool
  | _, [] => false
  | [], _ :: _ => true
  | x :: a, y :: b => decide (x < y) || (decide (x = y) && lless a b)
theorem less_str (a b : ByteArray) : Op.bytesLess a.toList b.toList = lless (sb a) (sb b) := by
  rw [ByteArray.toList_eq, ByteArray.toList_eq]
  unfold sb
  generalize a.data.toList = x
  generalize b.data.toList = y
  induction x generalizing y with
  | nil => cases y <;> simp [Op.bytesLess, lless]
  | cons c x ih =>
    cases y with
    | nil => simp [Op.bytesLess, lless]
    | cons d y =>
      simp only [Op.bytesLess, List.map_cons, lless, ih]
      congr 1
      congr 1
      by_cases h : c = d
      · subst h; simp
      · have h2 : c.toNat ≠ d.toNat := fun e => h (UInt8.toNat_inj.1 e)
        simp [h, h2]
theorem lless_irrefl : ∀ (a : List Nat), lless a a = false
  | [] => rfl
  | x :: a => by simp [lless, lless_irrefl a]
theorem lless_trans : ∀ {a b c : List Nat}, lless a b = true → lless b c = true → lless a c = true
  | a, b, [], h1, h2 => by cases b <;> simp [lless] at h2
  | [], b, z :: c, h1, h2 => rfl
  | x :: a, [], z :: c, h1, h2 => by simp [lless] at h1
  | x :: a, y :: b, z :: c, h1, h2 => by
    simp only [lless, Bool.or_eq_true, decide_eq_true_eq, Bool.and_eq_true] at h1 h2 ⊢
    rcases h1 with h1 | ⟨rfl, h1⟩ <;> rcases h2 with h2 | ⟨rfl, h2⟩
    · exact .inl (by omega)
    · exact .inl h1
    · exact .inl h2
    · exact .inr ⟨rfl, lless_trans h1 h2⟩
theorem lless_tri : ∀ (a b : List Nat), lless a b = true ∨ a = b ∨ lless b a = true
  | [], [] => .inr (.inl rfl)
  | [], y :: b => .inl rfl
  | x :: a, [] => .inr (.inr rfl)
  | x :: a, y :: b => by
    simp only [lless, Bool.or_eq_true, decide_eq_true_eq, Bool.and_eq_true, List.cons.injEq]
    rcases Nat.lt_trichotomy x y with h | rfl | h
    · exact .inl (.inl h)
    · rcases lless_tri a b with h | h | h
      · exact .inl (.inr ⟨rfl, h⟩)
      · exact .inr (.inl ⟨rfl, h⟩)
      · exact .inr (.inr (.inr ⟨rfl, h⟩))
    · exact .inr (.inr (.inl h))
theorem lless_asymm {a b : List Nat} (h : lless a b = true) : lless b a = false := by
  cases e : lless b a with
  | false => rfl
  | true => have := lless_trans h e; rw [lless_irrefl] at this; cases this
/-- how lists compare -/
def lcmp (a b : List Nat) : Int := if lless a b = true then -1 else if a = b then 0 else 1
theorem lcmp_cons (x y : Nat) (a b : List Nat) : lcmp (x :: a) (y :: b) = if x < y then -1 else if y < x then 1 else lcmp a b := by
  unfold lcmp
  simp only [lless, Bool.or_eq_true, decide_eq_true_eq, Bool.and_eq_true, List.cons.injEq]
  rcases Nat.lt_trichotomy x y with h | rfl | h
  · simp [h]
  · simp
  · have h1 : ¬ x < y := by omega
    have h2 : ¬ x = y := by omega
    simp [h, h1, h2]
theorem lcmp_lt {a b : List Nat} : lcmp a b < 0 ↔ lless a b = true := by
  unfold lcmp
  split
  · simp [*]
  · rename_i h
    simp only [Bool.not_eq_true] at h
    rw [h]
    split <;> simp
theorem lcmp_ge {a b : List Nat} : 0 ≤ lcmp a b ↔ lless a b = false := by
  have := lcmp_lt (a := a) (b := b)
  rw [← Bool.not_eq_true, ← this]; omega
theorem lcmp_zero {a b : List Nat} : lcmp a b = 0 ↔ a = b := by
  unfold lcmp
  split
  · rename_i h
    constructor
    · intro e; cases e
    · rintro rfl; rw [lless_irrefl] at h; cases h
  · split <;> simp [*]

/-- strings as they lie in a list -/
def strs (l : List (List Nat)) : List ByteArray := l.map mk
theorem strs_len (l : List (List Nat)) : (strs l).length = l.length := by simp [strs]
theorem strs_get (l : List (List Nat)) {i : Nat} (h : i < l.length) : (strs l)[i]? = some (mk l[i]) := by simp [strs, h]
theorem strs_append (a b : List (List Nat)) : strs a ++ strs b = strs (a ++ b) := by simp [strs]
theorem strs_sb (l : List ByteArray) : strs (l.map sb) = l := by
  unfold strs
  rw [List.map_map]
  conv => rhs; rw [← List.map_id l]
  exact List.map_congr_left (fun x _ => mk_sb x)
def octs (l : List (List Nat)) : Prop := ∀ s, s ∈ l → octets s
theorem strs_inj {a b : List (List Nat)} (ha : octs a) (hb : octs b) (h : strs a = strs b) : a = b := by
  have e : ∀ l : List (List Nat), octs l → (strs l).map sb = l := by
    intro l hl
    unfold strs
    rw [List.map_map]
    conv => rhs; rw [← List.map_id l]
    exact List.map_congr_left (fun x hx => sb_mk (hl x hx))
  rw [← e a ha, ← e b hb, h]
theorem size_mk (l : List Nat) : (mk l).size = l.length := by simp [mk, ByteArray.size]
theorem octets_append {a b : List Nat} (ha : octets a) (hb : octets b) : octets (a ++ b) := by
  intro x hx
  rcases List.mem_append.1 hx with h | h
  · exact ha x h
  · exact hb x h
theorem octets_take {a : List Nat} (ha : octets a) (n : Nat) : octets (a.take n) := fun x hx => ha x (List.mem_of_mem_take hx)
theorem octets_drop {a : List Nat} (ha : octets a) (n : Nat) : octets (a.drop n) := fun x hx => ha x (List.mem_of_mem_drop hx)
theorem mk_append {a b : List Nat} (ha : octets a) (hb : octets b) : mk a ++ mk b = mk (a ++ b) :=
  sb_inj (by rw [sb_append, sb_mk ha, sb_mk hb, sb_mk (octets_append ha hb)])
theorem mk_extract {a : List Nat} (ha : octets a) (i j : Nat) : (mk a).extract i j = mk ((a.take j).drop i) :=
  sb_inj (by rw [sb_extract, sb_mk ha, sb_mk (octets_drop (octets_take ha j) i)])
theorem mk_get {l : List Nat} (h : octets l) {i : Nat} (hi : i < l.length) : ∃ b : UInt8, (mk l).data.toList[i]? = some b ∧ b.toNat = l[i] := by
  obtain ⟨b, h1, h2⟩ := sb_get (s := mk l) (i := i) (by rw [size_mk]; exact hi)
  rw [sb_mk h, getD_get hi] at h2
  exact ⟨b, h1, h2⟩
theorem eq_mk {a b : List Nat} (ha : octets a) (hb : octets b) : ((mk a).toList == (mk b).toList) = decide (a = b) := by
  rw [eq_str]
  exact decide_eq_decide.2 ⟨mk_inj ha hb, fun e => by rw [e]⟩
theorem less_mk {a b : List Nat} (ha : octets a) (hb : octets b) : Op.bytesLess (mk a).toList (mk b).toList = lless a b := by rw [less_str, sb_mk ha, sb_mk hb]
end Go.Proofs.Ytfkkigbbejhfbaa
