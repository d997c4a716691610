/- The laws of front: what a call of each comes to, in whatever world. -/
import Derived.Test.YtfkkigbbejhfbaaLwF2
import Derived.Test.YtfkkigbbejhfbaaTopF
import Derived.Test.YtfkkigbbejhfbaaRowK
namespace Go.Proofs.Ytfkkigbbejhfbaa
open Go Go.RowKit Idl
theorem nats {l : List Int} {b : Int} (h : ∀ n, n ∈ l → 0 ≤ n ∧ n < b) : ∃ m : List Nat, l = ints m ∧ ∀ x, x ∈ m → (x : Int) < b := by
  refine ⟨l.map Int.toNat, (ints_toNat (fun x hx => (h x hx).1)).symm, fun x hx => ?_⟩
  obtain ⟨n, hn, rfl⟩ := List.mem_map.1 hx
  have := h n hn
  omega
theorem texts (l : List ByteArray) : ∃ m : List (List Nat), l = strs m ∧ octs m :=
  ⟨l.map sb, (strs_sb l).symm, fun s hs => by obtain ⟨x, _, rfl⟩ := List.mem_map.1 hs; exact sb_octets x⟩
theorem eqB : EqB CC := eqB_of eqFnB eqFnS eqFnP eqH
theorem FrontBuilds_call (a : Option Addr) (len cap : Nat) (zs : List ByteArray) (m : Int) (w : World) (h : IsRowS w a len cap zs) (hm : (Lit.int .i64 m).wf = true) :
    Calls Try.prog 4 #[.slice a len cap, .int .i64 m] w fun e w' => e = .returned (.bool true) ∧ Below w.heap.size w w' := by
  obtain ⟨l, hl, ho⟩ := texts (zs.take len)
  have law := FrontBuilds_law eqFnF eqFnS eqFnR eqFnP eqH eqB (k := big + 10) (by omega) ho m
  refine law_call (CC_ok (big + 10)) law (vs := [.slice a len cap, .int .i64 m]) rfl (fun j x c hj hc => ?_)
  match j, hj, hc with
  | 0, hj, hc => cases hj; cases hc; rw [← hl]; exact rep_strs h
  | 1, hj, hc => cases hj; cases hc; exact .int _ _
  | j + 2, hj, hc => simp at hj
theorem FrontOpens_call (a : Option Addr) (len cap : Nat) (zs : List Int) (w : World) (h : IsRow .u8 w a len cap zs) :
    Calls Try.prog 5 #[.slice a len cap] w fun e w' => e = .returned (.bool true) ∧ Below w.heap.size w w' := by
  obtain ⟨l, hl, hx⟩ := nats (fun n hn => wf_u8 (row_wf h n hn))
  have law := FrontOpens_law eqFnF eqFnS eqFnR eqFnP eqH eqB (k := big + 10) (by omega) (b := l) (fun x hxl => by have := hx x hxl; omega)
  refine law_call (CC_ok (big + 10)) law (vs := [.slice a len cap]) rfl (fun j x c hj hc => ?_)
  match j, hj, hc with
  | 0, hj, hc => cases hj; cases hc; rw [← hl]; exact rep_ints h
  | j + 1, hj, hc => simp at hj
theorem FrontBack_call (a : Option Addr) (len cap : Nat) (zs : List ByteArray) (m : Int) (w : World) (h : IsRowS w a len cap zs) (hm : (Lit.int .u8 m).wf = true) :
    Calls Try.prog 6 #[.slice a len cap, .int .u8 m] w fun e w' => e = .returned (.bool true) ∧ Below w.heap.size w w' := by
  obtain ⟨l, hl, ho⟩ := texts (zs.take len)
  obtain ⟨h0, h1⟩ := wf_u8 hm
  obtain ⟨m, rfl⟩ : ∃ n : Nat, m = (n : Int) := ⟨m.toNat, by omega⟩
  have law := FrontBack_law eqFnF eqFnS eqFnR eqFnP eqH eqB (k := big + 10) (by omega) ho (x := m) (by omega)
  refine law_call (CC_ok (big + 10)) law (vs := [.slice a len cap, .int .u8 (m : Int)]) rfl (fun j x c hj hc => ?_)
  match j, hj, hc with
  | 0, hj, hc => cases hj; cases hc; rw [← hl]; exact rep_strs h
  | 1, hj, hc => cases hj; cases hc; exact .int _ _
  | j + 2, hj, hc => simp at hj
theorem FrontCut_call (a : Option Addr) (len cap : Nat) (zs : List ByteArray) (m n : Int) (w : World) (h : IsRowS w a len cap zs) (hm : (Lit.int .u8 m).wf = true) (hn : (Lit.int .u16 n).wf = true) :
    Calls Try.prog 7 #[.slice a len cap, .int .u8 m, .int .u16 n] w fun e w' => e = .returned (.bool true) ∧ Below w.heap.size w w' := by
  obtain ⟨l, hl, ho⟩ := texts (zs.take len)
  obtain ⟨h0, h1⟩ := wf_u8 hm
  obtain ⟨h2, h3⟩ := wf_u16 hn
  obtain ⟨m, rfl⟩ : ∃ n : Nat, m = (n : Int) := ⟨m.toNat, by omega⟩
  obtain ⟨n, rfl⟩ : ∃ m : Nat, n = (m : Int) := ⟨n.toNat, by omega⟩
  have law := FrontCut_law eqFnF eqFnS eqFnR eqFnP eqH eqB (k := big + 10) (by omega) ho (x := m) (y := n) (by omega) (by omega)
  refine law_call (CC_ok (big + 10)) law (vs := [.slice a len cap, .int .u8 (m : Int), .int .u16 (n : Int)]) rfl (fun j x c hj hc => ?_)
  match j, hj, hc with
  | 0, hj, hc => cases hj; cases hc; rw [← hl]; exact rep_strs h
  | 1, hj, hc => cases hj; cases hc; exact .int _ _
  | 2, hj, hc => cases hj; cases hc; exact .int _ _
  | j + 3, hj, hc => simp at hj
theorem FrontKeeps_call (a : Option Addr) (len cap : Nat) (zs : List ByteArray) (w : World) (h : IsRowS w a len cap zs) :
    Calls Try.prog 8 #[.slice a len cap] w fun e w' => e = .returned (.bool true) ∧ Below w.heap.size w w' := by
  obtain ⟨l, hl, ho⟩ := texts (zs.take len)
  have law := FrontKeeps_law eqFnF eqFnS eqFnR eqFnP eqH eqB (k := big + 10) (by omega) ho
  refine law_call (CC_ok (big + 10)) law (vs := [.slice a len cap]) rfl (fun j x c hj hc => ?_)
  match j, hj, hc with
  | 0, hj, hc => cases hj; cases hc; rw [← hl]; exact rep_strs h
  | j + 1, hj, hc => simp at hj
end Go.Proofs.Ytfkkigbbejhfbaa
