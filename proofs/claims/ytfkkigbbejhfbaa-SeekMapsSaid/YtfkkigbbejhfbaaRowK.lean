/- What a law's row hands on: slices as they lie at the start. -/
import Derived.Test.YtfkkigbbejhfbaaTable
import Derived.Test.YtfkkigbbejhfbaaProg
import Derived.WalkKit
import Derived.ProofKit
import Derived.OpenShut
import Derived.ShutString
import Derived.ChangeOld
import Derived.Below
import Derived.SizedLaws
namespace Go.Proofs.Ytfkkigbbejhfbaa
open Go Go.RowKit Idl

def IsRow (k : IntKind) (w : World) (a : Option Addr) (len cap : Nat) (zs : List Int) : Prop :=
  (a = none ∧ len = 0 ∧ cap = 0 ∧ zs = []) ∨
  ∃ x, a = some x ∧ len ≤ cap ∧ cap ≤ maxLen ∧ zs.length = cap ∧ (∀ i, i < zs.length → w.cell? (x.add i) = some (.int k (zs.getD i 0))) ∧ ∀ n ∈ zs, (Lit.int k n).wf = true
def IsRowS (w : World) (a : Option Addr) (len cap : Nat) (zs : List ByteArray) : Prop :=
  (a = none ∧ len = 0 ∧ cap = 0 ∧ zs = []) ∨
  ∃ x, a = some x ∧ len ≤ cap ∧ cap ≤ maxLen ∧ zs.length = cap ∧ (∀ i, i < zs.length → w.cell? (x.add i) = some (.string (zs.getD i ByteArray.empty))) ∧ ∀ s ∈ zs, s.size ≤ maxLen
theorem cell_lt {w : World} {x : Addr} {v : Value} (h : w.cell? x = some v) : x.block < w.heap.size ∧ x.spot = none := by
  unfold World.cell? at h
  split at h
  · rename_i c e f hb
    refine ⟨?_, ?_⟩
    · rcases Nat.lt_or_ge x.block w.heap.size with h' | h'
      · exact h'
      · rw [Array.getElem?_eq_none h'] at hb; cases hb
    · split at h
      · cases h
      · rename_i hs; simpa using hs
  · cases h
theorem rep_row {w : World} {a : Arr V} {x : Addr} {len cap : Nat} (hl : a.len = len) (he : a.esz = 1) (hc : len ≤ cap) (mk : Nat → Value) (hcell : ∀ i, i < len → w.cell? (x.add i) = some (mk i))
    (hr : ∀ (i : Nat) (u : V), a.toL[i]? = some u → u.cells = [u] ∧ RepL (fun b => b < w.heap.size) w (mk i) u) : RepL (fun b => b < w.heap.size) w (.slice (some x) len cap) (.sl false a) := by
  by_cases h0 : len = 0
  · subst h0; exact .slE _ _ _ hl
  · have h1 := hcell 0 (by omega)
    have h2 := cell_lt h1
    obtain ⟨b, o, s⟩ := x
    simp only [Addr.add, if_true] at h2
    obtain ⟨h3, h4⟩ := h2
    subst h4
    have ilt : ∀ (i : Nat) (u : V), a.toL[i]? = some u → i < len := fun i u hi => by rw [← hl, ← Arr.length_toL]; exact (List.getElem?_eq_some_iff.1 hi).1
    have j0 : ∀ (i : Nat) (u : V) (j : Nat) (c : V), a.toL[i]? = some u → u.cells[j]? = some c → j = 0 ∧ c = u := by
      intro i u j c hi hj
      rw [(hr i u hi).1] at hj
      rcases Nat.eq_zero_or_pos j with h | h
      · subst h; simp at hj; exact ⟨rfl, hj.symm⟩
      · rw [List.getElem?_eq_none (by simp; omega)] at hj; cases hj
    refine .sl b o len cap a (fun i _ => mk i) hl hc h3 (fun i u hi => by rw [(hr i u hi).1, he]; rfl) (fun i u j c hi hj => ?_) (fun i u j c hi hj => ?_)
    · obtain ⟨rfl, rfl⟩ := j0 i u j c hi hj
      have := hcell i (ilt i c hi)
      rw [Addr.add_lit] at this
      rw [he, Nat.mul_one, Nat.add_zero]; exact this
    · obtain ⟨rfl, rfl⟩ := j0 i u j c hi hj
      exact (hr i c hi).2
theorem rep_ints {k : IntKind} {w : World} {a : Option Addr} {len cap : Nat} {zs : List Int} (h : IsRow k w a len cap zs) : RepL (fun b => b < w.heap.size) w (.slice a len cap) (.sl false (.ints k (zs.take len))) := by
  rcases h with ⟨rfl, rfl, rfl, rfl⟩ | ⟨x, rfl, h1, h2, h3, h4, h5⟩
  · exact .slE _ _ _ rfl
  · refine rep_row (by simp only [Arr.len, List.length_take]; omega) rfl h1 (fun i => .int k (zs.getD i 0)) (fun i hi => h4 i (by omega)) (fun i u hi => ?_)
    simp only [Arr.toL, List.getElem?_map, Option.map_eq_some_iff] at hi
    obtain ⟨n, hn, rfl⟩ := hi
    refine ⟨rfl, ?_⟩
    rw [List.getElem?_take] at hn
    split at hn
    · rw [List.getD_eq_getElem?_getD, hn]; exact .int _ _
    · cases hn
theorem rep_strs {w : World} {a : Option Addr} {len cap : Nat} {zs : List ByteArray} (h : IsRowS w a len cap zs) : RepL (fun b => b < w.heap.size) w (.slice a len cap) (.sl false (.strs (zs.take len))) := by
  rcases h with ⟨rfl, rfl, rfl, rfl⟩ | ⟨x, rfl, h1, h2, h3, h4, h5⟩
  · exact .slE _ _ _ rfl
  · refine rep_row (by simp only [Arr.len, List.length_take]; omega) rfl h1 (fun i => .string (zs.getD i ByteArray.empty)) (fun i hi => h4 i (by omega)) (fun i u hi => ?_)
    simp only [Arr.toL, List.getElem?_map, Option.map_eq_some_iff] at hi
    obtain ⟨n, hn, rfl⟩ := hi
    refine ⟨rfl, ?_⟩
    rw [List.getElem?_take] at hn
    split at hn
    · rw [List.getD_eq_getElem?_getD, hn]; exact .str _
    · cases hn
theorem row_wf {k : IntKind} {w : World} {a : Option Addr} {len cap : Nat} {zs : List Int} (h : IsRow k w a len cap zs) : ∀ n ∈ zs.take len, (Lit.int k n).wf = true := by
  rcases h with ⟨rfl, rfl, rfl, rfl⟩ | ⟨x, rfl, h1, h2, h3, h4, h5⟩
  · intro n hn; simp at hn
  · exact fun n hn => h5 n (List.mem_of_mem_take hn)
theorem wf_u32 {n : Int} (h : (Lit.int .u32 n).wf = true) : 0 ≤ n ∧ n < 4294967296 := by
  simp [Lit.wf, IntKind.min, IntKind.max, IntKind.signed, IntKind.bits] at h; omega
theorem wf_u16 {n : Int} (h : (Lit.int .u16 n).wf = true) : 0 ≤ n ∧ n < 65536 := by
  simp [Lit.wf, IntKind.min, IntKind.max, IntKind.signed, IntKind.bits] at h; omega
theorem wf_u8 {n : Int} (h : (Lit.int .u8 n).wf = true) : 0 ≤ n ∧ n < 256 := by
  simp [Lit.wf, IntKind.min, IntKind.max, IntKind.signed, IntKind.bits] at h; omega
theorem wf_i64 {n : Int} (h : (Lit.int .i64 n).wf = true) : -9223372036854775808 ≤ n ∧ n < 9223372036854775808 := by
  simp [Lit.wf, IntKind.min, IntKind.max, IntKind.signed, IntKind.bits] at h; omega
/-- a call that answers true, and keeps all that was there -/
theorem law_call {P : Program} {cf : CallF} {f : Nat} {args : List V} (hc : CallsOK P cf) (h : cf f args = some (.bool true, [])) {w : World} {vs : List Value} (hl : vs.length = args.length)
    (hv : ∀ (j : Nat) x c, vs[j]? = some x → args[j]? = some c → RepL (fun b => b < w.heap.size) w x c) :
    Calls P f vs.toArray w fun e w' => e = .returned (.bool true) ∧ Below w.heap.size w w' := by
  refine (callT_call (E := ⟨fun _ => none, fun _ => none, fun _ => none, [], fun _ _ => none, fun _ => none⟩) hc h hl (fun j x c hx hc => ?_)).mono ?_
  · have := hv j x c hx hc
    rw [ownv_eq (fun l e => by subst e; cases this) (fun l e => by subst e; cases this)]
    cases c with
    | sl o ar =>
      cases o with
      | true => cases this
      | false => exact ⟨this, rfl⟩
    | _ => exact ⟨this, rfl⟩
  · rintro e w' ⟨v, rfp, S', rfl, h1, h2, h3, h4, h5, h6⟩
    have : v = .bool true := RepL.ground_bool (S := S') (w := w') h1.1
    subst this
    exact ⟨rfl, ⟨h4, h5, h6, h3, h2⟩⟩
end Go.Proofs.Ytfkkigbbejhfbaa
