/- make, and the operations on places put together. -/
import Derived.Test.YtfkkigbbejhfbaaSound11
namespace Go.Proofs.Ytfkkigbbejhfbaa.Idl
open Go
variable {P : Program}
section
variable {F : Fx} {S S' : Nat → Prop} {own own' : Nat → Option Nat} {T T' : Nat → Value} {s : St} {a : Act} {w w' : World} {M : List V} {R : Type}

theorem wrap_id (n : Int) (h0 : 0 ≤ n) (h1 : n ≤ 17179869184) : IntKind.i64.wrap n = n := by
  rw [IntKind.wrap_i64]
  omega

theorem run_makeSlice_ok {t e : Nat} {te : TI} (hu : P.underlying t = some (.slice e)) (hT : TyOK P e te) {z : Value} {i : TypeInfo} (hi : P.info? e = some i) (hz : i.zero = some z) (_hzc : z.cells.size = te.size) (kl kc : IntKind) (n m : Nat) (hnm : n ≤ m) (hm : m ≤ bound) (hby : te.bytes ≤ 4096) :
    (Instr.makeSlice t (.int kl n) (.int kc m)).run P w = .ok (.slice (some ⟨w.heap.size, 0, none⟩) n m) (w.alloc (.cells (madeCells z.cells (m * te.size)) e)) := by
  have hmb : m ≤ 17179869184 := hm
  obtain ⟨i', z', hi', hsz, hbb, _⟩ := hT.info
  rw [hi] at hi'; cases hi'
  have w1 := wrap_id (n : Int) (by omega) (by omega)
  have w2 := wrap_id (m : Int) (by omega) (by omega)
  have hbytes : ¬ ((281474976710656 : Int) < (i.bytes : Int) * (m : Int)) := by
    have h1 : i.bytes * m ≤ 4096 * 17179869184 := Nat.mul_le_mul (by omega) hmb
    have h2 : ((i.bytes * m : Nat) : Int) ≤ 70368744177664 := by omega
    rw [Int.natCast_mul] at h2
    omega
  have hnn : ¬ ((n : Int) < 0) := by omega
  have hmm : ¬ ((m : Int) < 0) := by omega
  have hle : ¬ ((m : Int) < (n : Int)) := by omega
  by_cases h0 : m * te.size = 0
  · simp [Instr.makeSlice, run_underlying hu, asInt, asIntOf, typeInfo, hi, w1, w2, hbytes, hnn, hmm, hle, hT.sizeOf, h0, newRow, madeCells, show Array.range 0 = #[] from rfl]
  · simp [Instr.makeSlice, run_underlying hu, asInt, asIntOf, typeInfo, hi, hz, w1, w2, hbytes, hnn, hmm, hle, hT.sizeOf, h0, newRow, madeCells, zeroValue]

theorem zeros_eq {te : TI} {n : Nat} {K : Arr V → Option R} {r : R} (h : zeros te n K = some r) : ∃ ar c0, K ar = some r ∧ ar.len = n ∧ ar.esz = te.ek.nil.esz ∧ (∀ k l, te.ek ≠ .vals k ∨ l = te) ∧ te.zero = [c0] ∧ (∀ x, ZeroL x c0 → ∀ (i : Nat) u, ar.toL[i]? = some u → u.cells = [u] ∧ ∀ S w, RepL S w x u) := by
  unfold zeros at h
  split at h
  · rename_i k k' he hz
    split at h
    · rename_i hk
      subst hk
      refine ⟨_, _, h, by simp [Arr.len], by rw [he]; rfl, fun k l => .inl (by rw [he]; simp), hz, fun x hx i u hu => ?_⟩
      simp only [Arr.toL, List.map_replicate, List.getElem?_replicate] at hu
      split at hu
      · cases hu
        obtain ⟨_, rfl⟩ := hx
        exact ⟨rfl, fun _ _ => .int ..⟩
      · exact absurd hu (by simp)
    · exact absurd h (by simp)
  · rename_i he hz
    refine ⟨_, _, h, by simp [Arr.len], by rw [he]; rfl, fun k l => .inl (by rw [he]; simp), hz, fun x hx i u hu => ?_⟩
    simp only [Arr.toL, List.map_replicate, List.getElem?_replicate] at hu
    split at hu
    · cases hu
      obtain ⟨_, rfl⟩ := hx
      exact ⟨rfl, fun _ _ => .bool ..⟩
    · exact absurd hu (by simp)
  · rename_i sb he hz
    split at h
    · rename_i h0
      refine ⟨_, _, h, by simp [Arr.len], by rw [he]; rfl, fun k l => .inl (by rw [he]; simp), hz, fun x hx i u hu => ?_⟩
      simp only [Arr.toL, List.map_replicate, List.getElem?_replicate] at hu
      split at hu
      · cases hu
        have hx : x = .string sb := hx
        subst hx
        have : sb = .empty := by
          have h00 : sb.data.size = 0 := h0
          cases sb with
          | mk d =>
            have : d = #[] := Array.eq_empty_of_size_eq_zero h00
            subst this; rfl
        subst this
        exact ⟨rfl, fun _ _ => .str ..⟩
      · exact absurd hu (by simp)
    · exact absurd h (by simp)
  · exact absurd h (by simp)

theorem makeSlice_sound {E : Env} (hE : EnvOK P E) (h : FR F S own T s a w) {t : Nat} {te : TI} (hte : elemTI E t = some te) {vl vc : Value} {kl kc : IntKind} {n m : Int} (hl : RTV S w T s.M vl (.int kl n)) (hc : RTV S w T s.M vc (.int kc m)) {Kc : List V → V → Option R} {r : R}
    (hb : 0 ≤ n ∧ n ≤ m ∧ m ≤ bound ∧ te.bytes ≤ 4096) (hk : (zeros te n.toNat fun ar => Kc (s.M ++ [V.sl true ar]) (.rs s.M.length)) = some r) :
    ∃ v c w' own' T' M', (Instr.makeSlice t vl vc).run P w = .ok v w' ∧ FR F S own' T' { s with M := M' } a w' ∧ RTV S w' T' M' v c ∧ Kc M' c = some r := by
  obtain ⟨e, hu, _, hT⟩ := elemTI_ok hE hte
  obtain ⟨i, z, hi, hsz, hbb, hzz, hzc, hzl, hzr⟩ := hT.info
  obtain ⟨h0, h1, h2, h3⟩ := hb
  have e1 := rtv_int hl
  have e2 := rtv_int hc
  subst e1 e2
  obtain ⟨n', rfl⟩ := Int.eq_ofNat_of_zero_le h0
  obtain ⟨m', rfl⟩ := Int.eq_ofNat_of_zero_le (by omega : 0 ≤ m)
  simp only [Int.toNat_natCast] at hk
  obtain ⟨ar, c0, hk, hlen, hesz, _, hz1, hrep⟩ := zeros_eq hk
  have hsize1 : te.size = 1 := by rw [← hzl, hz1]; rfl
  have hez : ar.esz = 1 := by rw [hesz, hT.esz, hsize1]
  obtain ⟨x0, hx0⟩ : ∃ x, z.cells = #[x] := by
    have : z.cells.size = 1 := by rw [hzc, hsize1]
    exact Array.size_eq_one_iff.1 this
  have hm34 : m' ≤ 17179869184 := by
    have := h2
    unfold bound at this
    omega
  have hZ : ZeroL x0 c0 := hzr 0 x0 c0 (by rw [hx0]; rfl) (by rw [hz1]; rfl)
  have hrun := run_makeSlice_ok (P := P) (w := w) hu hT hi hzz hzc kl kc n' m' (by omega) (by omega) h3
  have hmade : ∀ k, k < m' → (madeCells z.cells (m' * te.size)).toList[k]? = some x0 := by
    intro k hk
    rw [hsize1, Nat.mul_one]
    simp [madeCells, hx0, hk, Nat.mod_one]
  have hO : OwnS S (w.alloc (.cells (madeCells z.cells (m' * te.size)) e)) (.slice (some ⟨w.heap.size, 0, none⟩) n' m') ar := by
    refine ⟨by omega, ⟨e, (madeCells z.cells (m' * te.size)).toList.take n', ⟨by simp [size_madeCells, hsize1, hez, hlen]; omega, .inr ⟨w.heap.size, m', _, by rw [hlen], Nat.zero_le _, heap_alloc_new w _, by omega, by unfold maxLen; omega, by rw [size_madeCells, hsize1, hez], by rw [hlen, hez, Nat.mul_one]⟩⟩, fun k u j c hku hj => ?_⟩, fun k u hku => ?_⟩
    · obtain ⟨hcu, hru⟩ := hrep x0 hZ k u hku
      rw [hcu] at hj
      have hkl : k < n' := by rw [← hlen, ← Arr.length_toL]; exact (List.getElem?_eq_some_iff.1 hku).1
      cases j with
      | zero =>
        simp at hj; subst hj
        refine ⟨x0, ?_, hru _ _⟩
        rw [hez, Nat.mul_one, Nat.add_zero, List.getElem?_take, if_pos hkl]
        exact hmade k (by omega)
      | succ j => simp at hj
    · rw [(hrep x0 hZ k u hku).1, hez]; rfl
  obtain ⟨own2, T2, f2, hr2⟩ := FR.newSlice (s := s) (M := s.M) h (w' := w.alloc (.cells (madeCells z.cells (m' * te.size)) e)) (.slice (some ⟨w.heap.size, 0, none⟩) n' m') ar (fun b hb => heap_alloc_old w _ b hb) (by simp) ⟨rfl, rfl, rfl⟩
    (fun b hb => by simp [Value.ownBlock] at hb; subst hb; simp) rfl hO
  exact ⟨_, _, _, own2, T2, _, hrun, f2, hr2, hk⟩
end
end Go.Proofs.Ytfkkigbbejhfbaa.Idl
