/- PackBack: what a call of it comes to, in whatever world. -/
import Derived.Test.YtfkkigbbejhfbaaLwP
import Derived.Test.YtfkkigbbejhfbaaTop
import Derived.Test.YtfkkigbbejhfbaaRowK
namespace Go.Proofs.Ytfkkigbbejhfbaa
open Go Go.RowKit Idl
theorem nats {l : List Int} {b : Int} (h : ∀ n, n ∈ l → 0 ≤ n ∧ n < b) : ∃ m : List Nat, l = ints m ∧ ∀ x, x ∈ m → (x : Int) < b := by
  refine ⟨l.map Int.toNat, (ints_toNat (fun x hx => (h x hx).1)).symm, fun x hx => ?_⟩
  obtain ⟨n, hn, rfl⟩ := List.mem_map.1 hx
  have := h n hn
  omega
theorem PackBack_call (a : Option Addr) (len cap : Nat) (zs : List Int) (m : Int) (w : World) (h : IsRow .u32 w a len cap zs) (hm : (Lit.int .u8 m).wf = true) :
    Calls Try.prog 3 #[.slice a len cap, .int .u8 m] w fun e w' => e = .returned (.bool true) ∧ Below w.heap.size w w' := by
  obtain ⟨l, hl, hx⟩ := nats (fun n hn => wf_u32 (row_wf h n hn))
  obtain ⟨h0, h1⟩ := wf_u8 hm
  obtain ⟨m, rfl⟩ : ∃ n : Nat, m = (n : Int) := ⟨m.toNat, by omega⟩
  have law := PackBack_law eqFnP eqFnA eqH (k := big + 8) (by omega) (l := l) (m := m) (fun x hxl => by have := hx x hxl; omega) (by omega)
  refine law_call (CC_ok (big + 8)) law (vs := [.slice a len cap, .int .u8 (m : Int)]) rfl (fun j x c hj hc => ?_)
  match j, hj, hc with
  | 0, hj, hc =>
    cases hj; cases hc
    rw [← hl]; exact rep_ints h
  | 1, hj, hc => cases hj; cases hc; exact .int _ _
  | j + 2, hj, hc => simp at hj
end Go.Proofs.Ytfkkigbbejhfbaa
