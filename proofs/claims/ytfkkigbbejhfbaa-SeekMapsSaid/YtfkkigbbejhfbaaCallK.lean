/- The laws of seek: what a call of each comes to, in whatever world. -/
import Derived.Test.YtfkkigbbejhfbaaLwK2
import Derived.Test.YtfkkigbbejhfbaaTopK
import Derived.Test.YtfkkigbbejhfbaaRowK
namespace Go.Proofs.Ytfkkigbbejhfbaa
open Go Go.RowKit Idl
theorem texts (l : List ByteArray) : ∃ m : List (List Nat), l = strs m ∧ octs m :=
  ⟨l.map sb, (strs_sb l).symm, fun s hs => by obtain ⟨x, _, rfl⟩ := List.mem_map.1 hs; exact sb_octets x⟩
theorem SeekCodes_call (a : Option Addr) (len cap : Nat) (zs : List ByteArray) (s : ByteArray) (w : World) (h : IsRowS w a len cap zs) (_hs : s.size ≤ 140737488351232) :
    Calls Try.prog 9 #[.slice a len cap, .string s] w fun e w' => e = .returned (.bool true) ∧ Below w.heap.size w w' := by
  obtain ⟨l, hl, ho⟩ := texts (zs.take len)
  have law := SeekCodes_law eqFnK eqFnL eqFnS eqFnR eqFnP eqH (k := big + 11) (by omega) (by unfold big; omega) ho (sb_octets s)
  rw [mk_sb] at law
  refine law_call (CC_ok (big + 11)) law (vs := [.slice a len cap, .string s]) rfl (fun j x c hj hc => ?_)
  match j, hj, hc with
  | 0, hj, hc => cases hj; cases hc; rw [← hl]; exact rep_strs h
  | 1, hj, hc => cases hj; cases hc; exact .str _
  | j + 2, hj, hc => simp at hj
theorem SeekPrefixes_call (a : Option Addr) (len cap : Nat) (zs : List ByteArray) (s : ByteArray) (w : World) (h : IsRowS w a len cap zs) (_hs : s.size ≤ 140737488351232) :
    Calls Try.prog 10 #[.slice a len cap, .string s] w fun e w' => e = .returned (.bool true) ∧ Below w.heap.size w w' := by
  obtain ⟨l, hl, ho⟩ := texts (zs.take len)
  have law := SeekPrefixes_law eqFnK eqFnL eqFnS eqFnR eqFnP eqH (k := big + 11) (by omega) (by unfold big; omega) ho (sb_octets s)
  rw [mk_sb] at law
  refine law_call (CC_ok (big + 11)) law (vs := [.slice a len cap, .string s]) rfl (fun j x c hj hc => ?_)
  match j, hj, hc with
  | 0, hj, hc => cases hj; cases hc; rw [← hl]; exact rep_strs h
  | 1, hj, hc => cases hj; cases hc; exact .str _
  | j + 2, hj, hc => simp at hj
theorem SeekMaps_call (a : Option Addr) (len cap : Nat) (zs : List ByteArray) (b : Option Addr) (len2 cap2 : Nat) (ys : List ByteArray) (w : World) (h : IsRowS w a len cap zs) (g : IsRowS w b len2 cap2 ys) :
    Calls Try.prog 11 #[.slice a len cap, .slice b len2 cap2] w fun e w' => e = .returned (.bool true) ∧ Below w.heap.size w w' := by
  obtain ⟨l, hl, ho⟩ := texts (zs.take len)
  obtain ⟨m, hm, go⟩ := texts (ys.take len2)
  have law := SeekMaps_law eqFnK eqFnL eqFnS eqFnR eqFnP eqH (k := big + 11) (by omega) (by unfold big; omega) ho go
  refine law_call (CC_ok (big + 11)) law (vs := [.slice a len cap, .slice b len2 cap2]) rfl (fun j x c hj hc => ?_)
  match j, hj, hc with
  | 0, hj, hc => cases hj; cases hc; rw [← hl]; exact rep_strs h
  | 1, hj, hc => cases hj; cases hc; rw [← hm]; exact rep_strs g
  | j + 2, hj, hc => simp at hj
theorem SeekBounds_call (a : Option Addr) (len cap : Nat) (zs : List ByteArray) (s : ByteArray) (w : World) (h : IsRowS w a len cap zs) (_hs : s.size ≤ 140737488351232) :
    Calls Try.prog 12 #[.slice a len cap, .string s] w fun e w' => e = .returned (.bool true) ∧ Below w.heap.size w w' := by
  obtain ⟨l, hl, ho⟩ := texts (zs.take len)
  have law := SeekBounds_law eqFnK eqFnL eqFnS eqFnR eqFnP eqH (k := big + 11) (by omega) (by unfold big; omega) ho (sb_octets s)
  rw [mk_sb] at law
  refine law_call (CC_ok (big + 11)) law (vs := [.slice a len cap, .string s]) rfl (fun j x c hj hc => ?_)
  match j, hj, hc with
  | 0, hj, hc => cases hj; cases hc; rw [← hl]; exact rep_strs h
  | 1, hj, hc => cases hj; cases hc; exact .str _
  | j + 2, hj, hc => simp at hj
theorem SeekAll_call (a : Option Addr) (len cap : Nat) (zs : List ByteArray) (w : World) (h : IsRowS w a len cap zs) :
    Calls Try.prog 13 #[.slice a len cap] w fun e w' => e = .returned (.bool true) ∧ Below w.heap.size w w' := by
  obtain ⟨l, hl, ho⟩ := texts (zs.take len)
  have law := SeekAll_law eqFnK eqFnL eqFnS eqFnR eqFnP eqH (k := big + 11) (by omega) (by unfold big; omega) ho
  refine law_call (CC_ok (big + 11)) law (vs := [.slice a len cap]) rfl (fun j x c hj hc => ?_)
  match j, hj, hc with
  | 0, hj, hc => cases hj; cases hc; rw [← hl]; exact rep_strs h
  | j + 1, hj, hc => simp at hj
end Go.Proofs.Ytfkkigbbejhfbaa
