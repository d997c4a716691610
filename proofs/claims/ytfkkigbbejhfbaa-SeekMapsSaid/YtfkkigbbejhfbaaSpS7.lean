/- Build: what it makes. -/
import Derived.Test.YtfkkigbbejhfbaaSpS4
import Derived.Test.YtfkkigbbejhfbaaFnB
namespace Go.Proofs.Ytfkkigbbejhfbaa
open Go Idl
set_option linter.unusedSimpArgs false
set_option linter.unusedVariables false
set_option maxRecDepth 100000
variable {C : Nat → CallF}

theorem chunks_map {α β : Type} (f : α → β) {k : Nat} (hk : 0 < k) : ∀ (n : Nat) (l : List α), l.length ≤ n → chunks k (l.map f) = (chunks k l).map (List.map f)
  | 0, l, hl => by
    obtain rfl : l = [] := List.eq_nil_of_length_eq_zero (by omega)
    rw [List.map_nil, chunks_nil, chunks_nil]; rfl
  | n + 1, l, hl => by
    by_cases h0 : l = []
    · subst h0; rw [List.map_nil, chunks_nil, chunks_nil]; rfl
    · have hp : 0 < l.length := List.length_pos_iff.2 h0
      rw [chunks_more hk (by simpa using h0), chunks_more hk h0, List.map_cons, ← List.map_drop, chunks_map f hk n (l.drop k) (by rw [List.length_drop]; omega), List.map_take]
theorem ChunkS_spec (h : EqFnB C) {k : Nat} (hk : 0 < k) (l : List ByteArray) {n : Nat} (hn : 0 < n) : C k 70 [.sl false (.strs l), .int .i64 (n : Int)] = some (.fn 96 [.pv [.sl false (.strs l)] 0, .pv [.int .i64 (n : Int)] 0], []) := by
  obtain ⟨k, rfl⟩ : ∃ m, k = m + 1 := ⟨k - 1, by omega⟩
  rw [h.ChunkS, ChunkS.f_eq]
  simp (disch := omega) only [cond_dec, cond_beq, cond_bne, cond_true, cond_false, Bool.not_true, Bool.not_false, if_pos, if_neg, Int.toNat_natCast, eq_self, and_true, true_and, bound, w64, natS, natP]
  rw [ChunkS.e0_eq]
theorem build_loop (h : EqFnB C) (hS : EqFnS C) (hP : EqFnP C) (H : EqH C) {k : Nat} (hk : big + 3 < k) {a0 a2 : List ByteArray} {a1 a3 : Int} : ∀ (cs : List (List (List Nat))) (S A : List Nat), (∀ c, c ∈ cs → c ≠ [] ∧ octs c ∧ c.length ≤ 64 ∧ ∀ s, s ∈ c → s.length ≤ 4096) → S.length + cs.length ≤ 100000 → A.length + cs.length * 263296 ≤ 10000000000 →
    FrontBuild.r0 C k (cs.map strs) a0 a1 a2 a3 (ints S) (ints A) = FrontBuild.e0 C k a0 a1 (ints (S ++ cs.map fun c => (blk c).length)) (ints (A ++ (cs.map blk).flatten))
  | [], S, A, _, _, _ => by rw [List.map_nil, FrontBuild.r0_nil]; simp
  | c :: cs, S, A, hc, hSl, hAl => by
    obtain ⟨c1, c2, c3, c4⟩ := hc c (by simp)
    have hb := blk_len c4
    simp only [List.length_cons] at hSl hAl
    have e1 : ints S ++ [((blk c).length : Int)] = ints (S ++ [(blk c).length]) := by simp [ints]
    rw [List.map_cons, FrontBuild.r0_cons, Entries.q_ok _ (Entries_spec hS hP H hk c1 c2 c4 (by omega)), ints_len, ints_len, if_pos ⟨by simp only [List.length_cons, List.length_nil]; unfold bound; omega, by trivial⟩, if_pos ⟨by rw [ints_len]; unfold bound; omega, by trivial⟩, e1, ints_append,
      build_loop h hS hP H hk cs _ _ (fun d hd => hc d (by simp [hd])) (by simp only [List.length_append, List.length_cons, List.length_nil]; omega) (by simp only [List.length_append]; omega)]
    simp
theorem FrontBuild_yes (h : EqFnB C) (hS : EqFnS C) (hP : EqFnP C) (H : EqH C) {k : Nat} (hk : big + 6 < k) {l : List (List Nat)} {b : Nat} {o : List Nat} (ho : octs l) (hr : Rt l b) (hu : Built l b o) :
    C k 26 [.sl false (.strs (strs l)), .int .i64 (b : Int)] = some (.tup [.sl true (.ints .u8 (ints o)), .int .i64 0], []) := by
  obtain ⟨k, rfl⟩ : ∃ m, k = m + 1 := ⟨k - 1, by omega⟩
  have hk0 : 0 < k := by omega
  have hb := hr.lo
  have hb2 := hr.hi
  have hl := hr.len
  obtain ⟨r, r1, r2⟩ := FrontRight_spec hS (k := k) (by omega) ho (b : Int)
  rw [Int.toNat_natCast] at r1
  have hrt : r = true := r1.2 hr
  subst hrt
  have hsl := sizes_len (k := b) (by omega) l
  have hdv := div_up_le (k := b) (by omega) l.length
  have hcl : (chunks b l).length ≤ 4096 := by rw [chunks_len (by omega) l.length l (Nat.le_refl _)]; omega
  have lp := build_loop h hS hP H (k := k) (by omega) (a0 := strs l) (a2 := strs l) (a1 := (b : Int)) (a3 := (b : Int)) (chunks b l) [] [] (fun c hc => by
    obtain ⟨m1, m2, m3⟩ := chunks_mem l.length l c (Nat.le_refl _) hc
    exact ⟨m1, fun s hs => ho s (m3 s hs), by omega, fun s hs => hr.size s (m3 s hs)⟩) (by simp only [List.length_nil]; omega) (by simp only [List.length_nil]; omega)
  rw [List.nil_append, List.nil_append] at lp
  have ec : chunks b (strs l) = (chunks b l).map strs := chunks_map mk (by omega) l.length l (Nat.le_refl _)
  obtain ⟨w, w1, rfl⟩ := hu
  obtain ⟨w', w2, w3⟩ := PackWrite_spec hP H (k := k) (by omega) (l := sizes b l) (sizes_lt (by omega) hr.size) (by omega)
  have hww : w' = w := by
    obtain ⟨p, p1, rfl⟩ := w1
    obtain ⟨q, q1, rfl⟩ := w2
    rw [q1.unique p1]
  subst hww
  have hab := allBytes_len (k := b) (by omega) hr.size
  have hv1 := vput_len 8 l.length (by omega)
  have hv2 := vput_len 8 b (by omega)
  have hwl : w'.length ≤ 100000 := by
    obtain ⟨p, p1, rfl⟩ := w2
    have hw := width_le (l := sizes b l) (w := 32) (sizes_lt (k := b) (by omega) hr.size)
    have := vput_len 8 (sizes b l).length (by omega)
    have hm : (sizes b l).length * width (sizes b l) ≤ 4096 * 32 := Nat.mul_le_mul (by omega) hw
    simp [p1.len]; omega
  rw [h.FrontBuild, FrontBuild.f_eq, FrontRight.s_ok _ _ r2, Bool.not_true, cond_false, ChunkS.q_ok _ _ (ChunkS_spec h hk0 (strs l) (by omega)), decide_eq_true ⟨by omega, by unfold bound; omega, by rw [strs_len]; unfold bound; omega⟩, cond_true, Int.toNat_natCast, ec]
  have e0 : ([] : List Int) = ints [] := rfl
  rw [e0]
  refine Eq.trans lp ?_
  have hc := Concat_spec hP H (k := k) (by omega) (ps := [ints (vput l.length), ints (vput b), ints w', ints (allBytes b l)]) (by simp) (by simp only [List.flatten_cons, List.flatten_nil, List.append_nil, List.length_append, ints_len]; unfold bound; omega)
  have e1 : ([V.sl false (Arr.ints IntKind.u8 (ints (vput l.length))), V.sl false (Arr.ints IntKind.u8 (ints (vput b))), V.sl false (Arr.ints IntKind.u8 (ints w')), V.sl false (Arr.ints IntKind.u8 (ints (allBytes b l)))] : List V) = rows8 [ints (vput l.length), ints (vput b), ints w', ints (allBytes b l)] := rfl
  have e2 : [ints (vput l.length), ints (vput b), ints w', ints (allBytes b l)].flatten = ints (vput l.length ++ (vput b ++ (w' ++ allBytes b l))) := by simp [ints]
  rw [e2] at hc
  have e3 : (chunks b l).map (fun c => (blk c).length) = sizes b l := rfl
  have e4 : ((chunks b l).map blk).flatten = allBytes b l := rfl
  rw [e3, e4, FrontBuild.e0_eq, PackWrite.q_ok _ w3, cond_bne, if_pos rfl, strs_len, CurPut.q_ok _ (CurPut_spec hP (by omega) (by omega)), CurPut.q_ok _ (CurPut_spec hP (by omega) (by omega)), e1, Concat.q_ok _ hc]
theorem FrontBuild_no (h : EqFnB C) (hS : EqFnS C) {k : Nat} (hk : big + 6 < k) {l : List (List Nat)} {b : Int} (ho : octs l) (hr : ¬ Rt l b.toNat) :
    C k 26 [.sl false (.strs (strs l)), .int .i64 b] = some (.tup [.sl true (.ints .u8 []), .int .i64 1], []) := by
  obtain ⟨k, rfl⟩ : ∃ m, k = m + 1 := ⟨k - 1, by omega⟩
  obtain ⟨r, r1, r2⟩ := FrontRight_spec hS (k := k) (by omega) ho b
  have hrf : r = false := by
    cases r with
    | false => rfl
    | true => exact absurd (r1.1 rfl) hr
  subst hrf
  rw [h.FrontBuild, FrontBuild.f_eq, FrontRight.s_ok _ _ r2, Bool.not_false, cond_true]
/-- Build, as the laws of front take it -/
structure EqB (C : Nat → CallF) : Prop where
  yes : ∀ (k : Nat), big + 6 < k → ∀ (l : List (List Nat)) (b : Nat) (o : List Nat), octs l → Rt l b → Built l b o → C k 26 [.sl false (.strs (strs l)), .int .i64 (b : Int)] = some (.tup [.sl true (.ints .u8 (ints o)), .int .i64 0], [])
  no : ∀ (k : Nat), big + 6 < k → ∀ (l : List (List Nat)) (b : Int), octs l → ¬ Rt l b.toNat → C k 26 [.sl false (.strs (strs l)), .int .i64 b] = some (.tup [.sl true (.ints .u8 []), .int .i64 1], [])
theorem eqB_of (h : EqFnB C) (hS : EqFnS C) (hP : EqFnP C) (H : EqH C) : EqB C :=
  ⟨fun k hk l b o ho hr hu => FrontBuild_yes h hS hP H hk ho hr hu, fun k hk l b ho hr => FrontBuild_no h hS hk ho hr⟩
end Go.Proofs.Ytfkkigbbejhfbaa
