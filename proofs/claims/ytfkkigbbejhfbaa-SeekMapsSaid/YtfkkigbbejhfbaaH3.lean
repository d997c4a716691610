/- slices.Chunk's iterator over strings: what it yields, proved by walking its code. -/
import Derived.Test.YtfkkigbbejhfbaaTable
import Derived.Test.YtfkkigbbejhfbaaProg
import Derived.RangeFuncBox
import Derived.RangeFuncLeaves
import Derived.Shelf.Abstract
import Derived.WalkKit
import Derived.OwnWalkIn
import Derived.TacticsInMore
import Derived.LoopNIn
import Derived.LoopIn
import Derived.KernelRfl
import Derived.BigRegionIn
namespace Go.Proofs.Ytfkkigbbejhfbaa
open Go Go.Proofs Go.RowKit Go.Shelf Idl
attribute [local go_sem] Oper.semAt_some
set_option linter.unusedVariables false
set_option linter.unusedSimpArgs false

set_option maxRecDepth 100000 in
set_option maxHeartbeats 2000000 in
theorem chunk96 (l : Nat) (ad1 ad2 : Addr) (b2 o2 len cap n : Nat) (hn : 0 < n) (hnb : n ≤ 17179869184) (hlen : len ≤ 17179869184) (hcap : len ≤ cap) (S : Nat → Prop) (h1 : S ad1.block) (h2 : S ad2.block) (J : Nat → World → Prop) (hdr : ∀ j W1, J j W1 → J j W1.drew)
    (hY : ∀ j W1, J j W1 → j * n < len → YieldAt Fence.wide 4 Try.prog l #[.slice (some ⟨b2, o2 + j * n, none⟩) (min n (len - j * n)) (min n (len - j * n))] W1 fun e W' => e = .returned (.bool true) ∧ J (j + 1) W' ∧ ∀ b, S b → W'.heap[b]? = W1.heap[b]?)
    (W : World) (c1 : W.cell? ad1 = some (.slice (some ⟨b2, o2, none⟩) len cap)) (c2 : W.cell? ad2 = some (.int .i64 n)) (h0 : J 0 W) :
    CallsIn Fence.wide 5 Try.prog 96 #[.func (.yield l) #[] #[], .pointer (some ad1), .pointer (some ad2)] W fun e W' => (∃ v, e = .returned v) ∧ ∃ j, (len ≤ j * n ∧ ∀ i, i < j → i * n < len) ∧ J j W' := by
  refine callsIn_of_wp Try.func96 rfl trivial ?_ rfl
  simp only [Try.ntmps96, List.size_toArray, List.length_cons, List.length_nil, Nat.reduceAdd, Nat.reduceSub, Array.replicate_succ, Array.replicate_zero, List.push_toArray, List.append_toArray, List.nil_append, List.cons_append]
  gi_wp2
  gi_loopw [4] (fun i wr => ∃ k : Nat, i = .int .i64 ((k * n : Nat) : Int) ∧ (∀ i, i < k → i * n < len) ∧ J k wr ∧ ∀ b, S b → wr.heap[b]? = W.heap[b]?)
    (fun i _ => len - (intOf i).toNat)
  case atStart => exact ⟨0, by simp, fun i hi => absurd hi (by omega), h0, fun _ _ => rfl⟩
  case round =>
    obtain ⟨k, rfl, hkl, hJs, hkeep⟩ := hrel
    have d1 : wr.cell? ad1 = some (.slice (some ⟨b2, o2, none⟩) len cap) := (World.cell?_of_block (hkeep _ h1)).trans c1
    have d2 : wr.cell? ad2 = some (.int .i64 n) := (World.cell?_of_block (hkeep _ h2)).trans c2
    by_cases hlt : k * n < len
    · obtain ⟨fn, tmps, assign, body, hy, hR⟩ := hY k wr.drew (hdr k wr hJs) hlt
      have hm : Try.prog.follows .mixedOrders = true := by kernel_rfl
      have rel : ∀ i, i < k + 1 → i * n < len := fun i hi => by
        rcases Nat.lt_or_ge i k with h | h
        · exact hkl i h
        · rw [show i = k by omega]; exact hlt
      have fin : ∀ W3 : World, J (k + 1) W3 → (∀ b, S b → W3.heap[b]? = wr.drew.heap[b]?) →
          (∃ k1 : Nat, Value.int IntKind.i64 ((k : Int) * (n : Int) + (n : Int)) = Value.int IntKind.i64 ((k1 * n : Nat) : Int) ∧ (∀ i, i < k1 → i * n < len) ∧ J k1 W3 ∧ ∀ b, S b → W3.heap[b]? = W.heap[b]?) ∧
          len - (intOf (Value.int IntKind.i64 ((k : Int) * (n : Int) + (n : Int)))).toNat < len - (intOf (Value.int IntKind.i64 ((k * n : Nat) : Int))).toNat := by
        intro W3 hJ3 hk3
        have hcast : (k : Int) * (n : Int) + (n : Int) = (((k + 1) * n : Nat) : Int) := by push_cast; rw [Int.add_mul, Int.one_mul]
        have hkn : (k + 1) * n = k * n + n := by rw [Nat.add_mul, Nat.one_mul]
        rw [hcast]
        refine ⟨⟨k + 1, rfl, rel, hJ3, fun b hb => (hk3 b hb).trans (hkeep b hb)⟩, ?_⟩
        show len - (((k + 1) * n : Nat) : Int).toNat < len - ((k * n : Nat) : Int).toNat
        rw [Int.toNat_natCast, Int.toNat_natCast]
        omega
      by_cases hle : n ≤ len - k * n
      · rw [Nat.min_eq_left hle] at hy
        gi_wp2
        gi_region
        all_goals gi_wp2
        refine hR.mono ?_
        rintro e W3 ⟨rfl, hJ3, hk3⟩
        have d3 : W3.cell? ad2 = some (.int .i64 n) := (World.cell?_of_block (hk3 _ h2)).trans d2
        gi_wp2
        exact fin W3 hJ3 hk3
      · rw [Nat.min_eq_right (by omega)] at hy
        gi_wp2
        gi_region
        all_goals gi_wp2
        refine hR.mono ?_
        rintro e W3 ⟨rfl, hJ3, hk3⟩
        have d3 : W3.cell? ad2 = some (.int .i64 n) := (World.cell?_of_block (hk3 _ h2)).trans d2
        gi_wp2
        exact fin W3 hJ3 hk3
    · gi_wp2
      go_end0
      exact ⟨⟨_, rfl⟩, k, ⟨by omega, hkl⟩, hJs⟩
set_option maxRecDepth 100000 in
set_option maxHeartbeats 1000000 in
theorem chunk96_nil (l : Nat) (ad1 ad2 : Addr) (base : Option Addr) (cap : Nat) (n : Int) (J : Nat → World → Prop) (W : World) (c1 : W.cell? ad1 = some (.slice base 0 cap)) (h0 : J 0 W) :
    CallsIn Fence.wide 5 Try.prog 96 #[.func (.yield l) #[] #[], .pointer (some ad1), .pointer (some ad2)] W fun e W' => (∃ v, e = .returned v) ∧ J 0 W' := by
  refine callsIn_of_wp Try.func96 rfl trivial ?_ rfl
  simp only [Try.ntmps96, List.size_toArray, List.length_cons, List.length_nil, Nat.reduceAdd, Nat.reduceSub, Array.replicate_succ, Array.replicate_zero, List.push_toArray, List.append_toArray, List.nil_append, List.cons_append]
  gi_wp2
  gi_loopw [4] (fun i wr => i = .int .i64 0 ∧ J 0 wr ∧ wr = W) (fun _ _ => 0)
  case atStart => exact ⟨rfl, h0, rfl⟩
  case round =>
    obtain ⟨rfl, hJs, rfl⟩ := hrel
    gi_wp2
    go_end0
    exact ⟨⟨_, rfl⟩, hJs⟩

theorem chunks_at {α : Type} {k : Nat} (hk : 0 < k) : ∀ (n : Nat) (l : List α), l.length ≤ n → ∀ j, (chunks k l)[j]? = if j * k < l.length then some ((l.drop (j * k)).take k) else none := by
  intro n
  induction n with
  | zero =>
    intro l hl j
    obtain rfl : l = [] := List.eq_nil_of_length_eq_zero (by omega)
    rw [chunks, dif_pos (.inl rfl)]; simp
  | succ n ih =>
    intro l hl j
    by_cases h0 : l = []
    · subst h0; rw [chunks, dif_pos (.inl rfl)]; simp
    · have hp : 0 < l.length := List.length_pos_iff.2 h0
      rw [chunks, dif_neg (fun e => e.elim h0 (fun e => by omega))]
      cases j with
      | zero => rw [List.getElem?_cons_zero, Nat.zero_mul, if_pos hp, List.drop_zero]
      | succ j =>
        have e : (j + 1) * k = k + j * k := by rw [Nat.add_mul, Nat.one_mul]; omega
        rw [List.getElem?_cons_succ, ih (l.drop k) (by rw [List.length_drop]; omega) j, List.length_drop, List.drop_drop, e]
        by_cases hlt : j * k < l.length - k
        · rw [if_pos hlt, if_pos (by omega)]
        · rw [if_neg hlt, if_neg (by omega)]
theorem chunks_lt {α : Type} {k : Nat} (hk : 0 < k) (l : List α) (j : Nat) : j < (chunks k l).length ↔ j * k < l.length := by
  have h := chunks_at hk l.length l (Nat.le_refl _) j
  constructor
  · intro hj
    rw [List.getElem?_eq_getElem hj] at h
    split at h
    · assumption
    · cases h
  · intro hj
    rw [if_pos hj] at h
    exact (List.getElem?_eq_some_iff.1 h).1
/-- the iterator of slices.Chunk yields the parts, one by one -/
theorem seq96_ok (cap xs : List V) (h : seqChunkS cap = some (true, xs)) (S : Nat → Prop) (w : World) (vals : List Value) (hl : vals.length = cap.length) (hr : ∀ (j : Nat) x c, vals[j]? = some x → cap[j]? = some c → RepL S w x c) :
    ∃ fn, Try.prog.funcs[96]? = some fn ∧ (fn.name == "runtime.NumGoroutine") = false ∧ fn.body.isSome = true ∧ ∃ ys : Nat → Value, (∀ (j : Nat) c, xs[j]? = some c → RepL S w (ys j) c) ∧
      ∀ (l : Nat) (J : Nat → World → Prop) (W : World), (∀ b, S b → W.heap[b]? = w.heap[b]?) → (∀ j W1, J j W1 → J j W1.drew) →
        (∀ j W1 m, J j W1 → j < xs.length → YieldAt Fence.wide m Try.prog l #[ys j] W1 fun e W' => e = .returned (.bool true) ∧ J (j + 1) W' ∧ ∀ b, S b → W'.heap[b]? = W1.heap[b]?) →
        J 0 W → Calls Try.prog 96 (#[.func (.yield l) #[] #[]] ++ vals.toArray) W fun e W' => (∃ v, e = .returned v) ∧ J xs.length W' := by
  unfold seqChunkS at h
  split at h
  case h_2 => cases h
  rename_i L n
  simp only [Option.some.injEq, Prod.mk.injEq, decide_eq_true_eq] at h
  obtain ⟨⟨hn0, hnb, hLb⟩, rfl⟩ := h
  obtain ⟨m, rfl⟩ : ∃ m : Nat, n = (m : Int) := ⟨n.toNat, by omega⟩
  rw [Int.toNat_natCast]
  have hm : 0 < m := by omega
  refine ⟨Try.f96, Try.func96, by kernel_rfl, by kernel_rfl, ?_⟩
  match vals, hl with
  | [v1, v2], _ =>
    have r1 := hr 0 v1 _ rfl rfl
    have r2 := hr 1 v2 _ rfl rfl
    cases r1 with
    | pv b1 o1 _ _ x1 hS1 hx1 hr1 =>
      cases r2 with
      | pv b2 o2 _ _ x2 hS2 hx2 hr2 =>
        have c1 := hx1 0 _ rfl
        have c2 := hx2 0 _ rfl
        have q1 := hr1 0 _ rfl
        have q2 := (hr2 0 _ rfl).ground_int
        rw [q2] at c2
        generalize x1 0 = y1 at c1 q1
        simp only [Nat.add_zero] at c1 c2
        cases q1 with
        | slE base cap _ h0 =>
          have hL0 : L = [] := List.eq_nil_of_length_eq_zero h0
          subst hL0
          have e0 : chunks m ([] : List ByteArray) = [] := by rw [chunks, dif_pos (.inl rfl)]
          rw [e0]
          refine ⟨fun _ => undef, fun j c hc => by simp at hc, fun l J W hW hdr hY h0 => ?_⟩
          exact callsIn_wide.1 (chunk96_nil l ⟨b1, o1, none⟩ ⟨b2, o2, none⟩ base cap m J W ((World.cell?_of_block (hW _ hS1)).trans c1) h0)
        | sl b3 o3 len cap _ x3 hl3 hc3 hS3 hz3 hx3 hr3 =>
          have hlen : L.length = len := hl3
          subst hlen
          unfold bound at hnb hLb
          refine ⟨fun j => .slice (some ⟨b3, o3 + j * m, none⟩) (min m (L.length - j * m)) (min m (L.length - j * m)), fun j c hc => ?_, fun l J W hW hdr hY h0 => ?_⟩
          · rw [List.getElem?_map, Option.map_eq_some_iff] at hc
            obtain ⟨q, hq, rfl⟩ := hc
            rw [chunks_at hm L.length L (Nat.le_refl _)] at hq
            split at hq
            · rename_i hlt
              cases hq
              have at_ : ∀ (i : Nat) (v : V), (Arr.strs ((L.drop (j * m)).take m) : Arr V).toL[i]? = some v → (Arr.strs L : Arr V).toL[j * m + i]? = some v := by
                intro i v hv
                simp only [Arr.toL, List.getElem?_map, Option.map_eq_some_iff] at hv ⊢
                obtain ⟨s, hs, rfl⟩ := hv
                rw [List.getElem?_take] at hs
                split at hs
                · rw [List.getElem?_drop] at hs
                  exact ⟨s, hs, rfl⟩
                · cases hs
              refine .sl b3 (o3 + j * m) _ _ _ (fun i jj => x3 (j * m + i) jj) (by simp [Arr.len]) (Nat.le_refl _) hS3 (fun i v hv => hz3 _ v (at_ i v hv)) (fun i v jj c hv hj => ?_) (fun i v jj c hv hj => hr3 _ v jj c (at_ i v hv) hj)
              have := hx3 _ v jj c (at_ i v hv) hj
              simp only [Arr.esz, Nat.mul_one] at this ⊢
              rw [show o3 + j * m + (i + jj) = o3 + (j * m + i + jj) by omega]
              exact this
            · cases hq
          · refine (callsIn_wide.1 (chunk96 l ⟨b1, o1, none⟩ ⟨b2, o2, none⟩ b3 o3 L.length cap m hm (by omega) hLb hc3 S hS1 hS2 J hdr (fun j W1 hJ hj => hY j W1 4 hJ (by rw [List.length_map]; exact (chunks_lt hm L j).2 hj)) W ((World.cell?_of_block (hW _ hS1)).trans c1) ((World.cell?_of_block (hW _ hS2)).trans c2) h0)).mono ?_
            rintro e W' ⟨hv, j, ⟨j1, j2⟩, hJ⟩
            have : j = ((chunks m L).map fun c => V.sl false (.strs c)).length := by
              rw [List.length_map]
              rcases Nat.lt_trichotomy j (chunks m L).length with h | h | h
              · have := (chunks_lt hm L j).1 h; omega
              · exact h
              · have := (chunks_lt hm L (chunks m L).length).2 (j2 _ h); omega
            rw [← this]
            exact ⟨hv, hJ⟩
end Go.Proofs.Ytfkkigbbejhfbaa
