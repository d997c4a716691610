/- slices.Sort and slices.Compact of strings: what they make of a slice that is owned. -/
import Derived.Test.YtfkkigbbejhfbaaSndB
import Derived.Shelf.Sort.Plain
import Derived.Shelf.Slices.CompactS
import Derived.Shelf.Slices.In.SortNone
import Derived.Sort.OwnSorted
namespace Go.Proofs.Ytfkkigbbejhfbaa.Idl
open Go Go.Shelf Go.Sort Go.RowKit
variable {P : Program} {ρ : Go.Shelf.Ren}

theorem strsU_length (l : List ByteArray) : (strsU l).length = l.length := by simp [strsU]
theorem strsB_length (l : List (List UInt8)) : (strsB l).length = l.length := by simp [strsB]

/-- a slice of strings that is owned, as the library's contracts tell it -/
theorem ownS_strs {S : Nat → Prop} {w : World} {v : Value} {l : List ByteArray} (h : OwnS S w v (.strs l)) :
    (v = .slice none 0 0 ∧ l = []) ∨ ∃ g cap cur e, v = .slice (some ⟨g, 0, none⟩) (strsU l).length cap ∧ w.heap[g]? = some (.cells cur e (0, 0)) ∧ (strsU l).length ≤ cap ∧ cap ≤ maxLen ∧ cur.size = cap * 1 ∧
      cur.toList.take (strsU l).length = (strsU l).map encStr := by
  obtain ⟨_, ⟨e, xs, ⟨hl, hown⟩, hr⟩, _⟩ := h
  simp only [Arr.esz, Arr.len, Nat.mul_one] at hl hown hr
  rcases hown with ⟨hv, h0⟩ | ⟨g, cap, cur, hv, _, hg, h1, h2, h3, h4⟩
  · exact .inl ⟨hv, List.eq_nil_of_length_eq_zero h0⟩
  · refine .inr ⟨g, cap, cur, e, by rw [hv, strsU_length], hg, by rw [strsU_length]; exact h1, h2, by rw [h3, Nat.mul_one], ?_⟩
    rw [strsU_length, h4]
    apply List.ext_getElem?
    intro i
    simp only [strsU, List.getElem?_map]
    by_cases hi : i < l.length
    · obtain ⟨x, hx, hrx⟩ := hr i (.str l[i]) 0 (.str l[i]) (by simp [Arr.toL, hi]) rfl
      simp only [Nat.add_zero] at hx
      rw [hx, List.getElem?_eq_getElem hi]
      rw [hrx.ground_str]
      rfl
    · rw [List.getElem?_eq_none (by omega), List.getElem?_eq_none (by omega)]
      rfl

/-- .. and back -/
theorem strs_ownS {S : Nat → Prop} {w : World} {g cap : Nat} {cur : Array Value} {e : TypeId} {zs : List (List UInt8)} (hg : w.heap[g]? = some (.cells cur e (0, 0))) (h1 : zs.length ≤ cap) (h2 : cap ≤ maxLen) (h3 : cur.size = cap * 1)
    (h4 : cur.toList.take zs.length = zs.map encStr) : OwnS S w (.slice (some ⟨g, 0, none⟩) zs.length cap) (.strs (strsB zs)) := by
  refine ⟨by simp [Arr.esz], ⟨e, zs.map encStr, ⟨by simp [Arr.len, Arr.esz, strsB_length], .inr ⟨g, cap, cur, by simp [Arr.len, strsB_length], Nat.zero_le _, hg, by simpa [Arr.len, strsB_length] using h1, h2, by simpa [Arr.esz] using h3, by simpa [Arr.len, Arr.esz, strsB_length] using h4⟩⟩, fun i u j c hu hc => ?_⟩, fun i u hu => ?_⟩
  · simp only [Arr.toL, strsB, List.map_map, List.getElem?_map, Option.map_eq_some_iff] at hu
    obtain ⟨z, hz, rfl⟩ := hu
    have hj : j = 0 := by
      have := (List.getElem?_eq_some_iff.1 hc).1
      simpa [V.cells] using this
    subst hj
    simp only [Function.comp, V.cells, List.getElem?_cons_zero, Option.some.injEq] at hc
    subst hc
    refine ⟨.string ⟨z.toArray⟩, ?_, .str _⟩
    simp [Arr.esz, hz, encStr]
  · simp only [Arr.toL, strsB, List.map_map, List.getElem?_map, Option.map_eq_some_iff] at hu
    obtain ⟨z, hz, rfl⟩ := hu
    rfl

theorem ownS_strsNil {S : Nat → Prop} {w : World} : OwnS S w (.slice none 0 0) (.strs []) :=
  ⟨by simp [Arr.esz], ⟨0, [], ⟨by simp [Arr.len], .inl ⟨rfl, rfl⟩⟩, fun i u j c hu => by simp [Arr.toL] at hu⟩, fun i u hu => by simp [Arr.toL] at hu⟩

theorem sort_inp (L : Lays.n190 P ρ) : InpOK P (ρ.f 190) false okStrs (onStrs sortS) := by
  intro S w v a hO hS hok
  cases a with
  | strs l =>
    simp only [okStrs, decide_eq_true_eq] at hok
    have hlen : ((strsU l).mergeSort fun x y => decide (x ≤ y)).length = (strsU l).length := by simp
    refine ⟨fun _ => ⟨by simp [onStrs, sortS, Arr.len, strsB_length, strsU_length], rfl⟩, ?_⟩
    rcases ownS_strs hO with ⟨rfl, rfl⟩ | ⟨g, cap, cur, e, rfl, hg, h1, h2, h3, h4⟩
    · refine (Any.slices_Sort_string_none L none 0 w).mono ?_
      rintro e w' ⟨he, rfl⟩
      exact ⟨_, he, fun _ => rfl, by simpa [onStrs, sortS, strsU, strsB] using ownS_strsNil, fun b hb => hb, Nat.le_refl _, ⟨rfl, rfl, rfl⟩, fun _ _ _ => rfl⟩
    · have hgl : g < w.heap.size := (Array.getElem?_eq_some_iff.1 hg).1
      refine (Any.slices_Sort_string L g 0 cap (strsU l) w (holds_of_block hg h4) hgl (by rw [strsU_length]; omega)).mono ?_
      rintro e' w' ⟨he, n, os, rfl⟩
      have hgr := grownBy_sorted (w := w) (g := g) (n := n) (os := os) ((strsU l).mergeSort fun x y => decide (x ≤ y)).toArray
      refine ⟨_, he, fun _ => rfl, ?_, fun b hb => hb, hgr.size, ⟨hgr.os, hgr.tape, hgr.output⟩, fun b hb hne => hgr.block b hb (fun e => hne (by rw [e]; rfl))⟩
      have := strs_ownS (S := S) (zs := (strsU l).mergeSort fun x y => decide (x ≤ y)) (heap_sorted (n := n) (os := os) _ hg) (by rw [hlen]; exact h1) h2 (by simpa [putCells] using h3) (take_putCells cur _ (by rw [hlen]; omega))
      rw [hlen] at this
      exact this
  | _ => simp [okStrs] at hok

theorem compact_le (zs : List (List UInt8)) : (Lib.compact zs).length ≤ zs.length := by
  unfold Lib.compact Lib.compactUpTo
  rw [List.length_map]
  exact Nat.le_trans (List.length_filter_le _ _) (by simp)

theorem compact_inp (L : Lays.n194 P ρ) : InpOK P (ρ.f 194) true okStrs (onStrs compactS) := by
  intro S w v a hO hS hok
  cases a with
  | strs l =>
    simp only [okStrs, decide_eq_true_eq] at hok
    refine ⟨(fun h => by cases h), ?_⟩
    rcases ownS_strs hO with ⟨rfl, rfl⟩ | ⟨g, cap, cur, e, rfl, hg, h1, h2, h3, h4⟩
    · refine (Any.slices_Compact_string_empty L none 0 w).mono ?_
      rintro e w' ⟨he, rfl⟩
      exact ⟨_, he, (fun h => by cases h), by simpa [onStrs, compactS, strsU, strsB, Lib.compact, Lib.compactUpTo] using ownS_strsNil, fun b hb => hb, Nat.le_refl _, ⟨rfl, rfl, rfl⟩, fun _ _ _ => rfl⟩
    · have hcl := compact_le (strsU l)
      refine (Any.slices_Compact_string L g 0 cap (strsU l) w (holds_of_block hg h4) (by rw [strsU_length]; omega) h1).mono ?_
      rintro e' w' ⟨he, q, rfl⟩
      have hgr := grownBy_sorted (w := w) (g := g) (n := q) (os := #[]) (Lib.compact (strsU l) ++ List.replicate ((strsU l).length - (Lib.compact (strsU l)).length) []).toArray
      have hhp := heap_sorted (n := q) (os := #[]) (Lib.compact (strsU l) ++ List.replicate ((strsU l).length - (Lib.compact (strsU l)).length) []).toArray hg
      rw [grow_empty] at hgr hhp
      refine ⟨_, he, (fun h => by cases h), ?_, fun b hb => hb, hgr.size, ⟨hgr.os, hgr.tape, hgr.output⟩, fun b hb hne => hgr.block b hb (fun e => hne (by rw [e]; rfl))⟩
      refine strs_ownS (zs := Lib.compact (strsU l)) hhp (by omega) h2 (by simpa [putCells] using h3) ?_
      have ht := take_putCells cur (Lib.compact (strsU l) ++ List.replicate ((strsU l).length - (Lib.compact (strsU l)).length) []) (by simp; omega)
      have ht2 := congrArg (List.take (Lib.compact (strsU l)).length) ht
      rw [List.take_take, List.map_append, List.take_left' (by simp)] at ht2
      rw [Nat.min_eq_left (by simp)] at ht2
      exact ht2
  | _ => simp [okStrs] at hok
end Go.Proofs.Ytfkkigbbejhfbaa.Idl
