/- append, whatever its source; stores. -/
import Derived.Test.YtfkkigbbejhfbaaSound7
namespace Go.Proofs.Ytfkkigbbejhfbaa.Idl
open Go
variable {P : Program}
section
variable {w w' : World}

theorem append_core (t u ty e : TypeId) (i : TypeInfo) (z : Value) (du : TypeDesc) (size : Nat) (ht : P.underlying t = some (.slice e)) (hu : P.underlying u = some du) (hdu : ∀ k, du ≠ .int k) (hi : P.info? e = some i) (hz : i.zero = some z)
    (hsize : i.size = size) (hby : i.bytes ≤ 4096) (hzs : z.cells.size = size) (hsz : 0 < size)
    (v : Value) (n : Nat) (xs : List Value) (hown : ∃ e', w.ownsRow 0 e' size v n xs)
    (x : Value) (m : Nat) (news : List Value) (hl : news.length = m * size) (hlen : (Builtin.lenOf x).run P w = .ok m w)
    (hfc : ∀ w1 : World, w1.heap = w.heap → (Builtin.firstCells size m x).run P w1 = .ok news.toArray w1) (h1 : ∀ u ∈ news, u.oneCell' = true) (hb : n + m ≤ bound) :
    ∃ v' w' e', (Builtin.append_ #[t, u] ty #[v, x]).run P w = .ok v' w' ∧ w'.ownsRow 0 e' size v' (n + m) (xs ++ news) ∧ w.grownBy w' v.ownBlock ∧
      (∀ g, v'.ownBlock = some g → w.heap.size ≤ g ∨ v.ownBlock = some g) := by
  subst hsize
  obtain ⟨e0, hown⟩ := hown
  have hbb : n + m ≤ 17179869184 := hb
  have hlenx : (xs ++ news).length = (n + m) * i.size := by rw [List.length_append, hown.1, hl, Nat.add_mul]
  have hprod : (n + m) * i.bytes ≤ 70368744177664 := by
    have := Nat.mul_le_mul hbb hby
    omega
  have grown : ∀ (old : Nat), old < n + m → ∀ (row : Option Nat),
      (w.drew.alloc (.cells (xs.toArray ++ news.toArray ++ Builtin.zeroCells z.cells (grownCap w (n + m) old e - (n + m))) e)).ownsRow 0 e i.size
        (.slice (some ⟨w.heap.size, 0, none⟩) (n + m) (grownCap w (n + m) old e)) (n + m) (xs ++ news) ∧
      w.grownBy (w.drew.alloc (.cells (xs.toArray ++ news.toArray ++ Builtin.zeroCells z.cells (grownCap w (n + m) old e - (n + m))) e)) row := by
    intro old ho row
    have hge := grownCap_ge w (n + m) old e
    have hcm : grownCap w (n + m) old e ≤ maxLen := grownCap_le_maxLen w (n + m) old e (by unfold maxLen; omega)
    refine ⟨⟨hlenx, .inr ⟨w.heap.size, _, _, rfl, Nat.zero_le _, heap_alloc_new w.drew _, hge, hcm, ?_, ?_⟩⟩, ⟨rfl, rfl, rfl, by simp, fun k hk _ => heap_alloc_old w.drew _ k hk⟩⟩
    · simp only [Array.size_append, List.size_toArray, size_zeroCells, hzs, hown.1, hl, ← Nat.add_mul]
      congr 1
      omega
    · simp only [Array.toList_append, List.append_assoc]
      rw [← List.append_assoc, ← hlenx]
      exact List.take_left
  have hdrew : (Builtin.firstCells i.size m x).run P w.drew = .ok news.toArray w.drew := hfc w.drew rfl
  have hfc0 := hfc w rfl
  rcases hown.2 with ⟨rfl, rfl⟩ | ⟨g, cap, cur, rfl, hbg, hg, hnc, hcm, hcs, htake⟩
  · have hx : xs = [] := List.eq_nil_of_length_eq_zero (by simpa using hown.1)
    subst hx
    by_cases hm : m = 0
    · subst hm
      have hn : news = [] := List.eq_nil_of_length_eq_zero (by simpa using hl)
      subst hn
      refine ⟨.slice none 0 0, w, e, ?_, World.ownsRow_nil w 0 e i.size, ⟨rfl, rfl, rfl, Nat.le_refl _, fun _ _ _ => rfl⟩, fun g hg => .inr hg⟩
      simp [Builtin.append_, run_underlying ht, run_underlying hu, sizeOf, typeInfo, hi, hlen, hfc0]
      try (cases du <;> first | (exact absurd rfl (hdu _)) | simp [hlen, hfc0])
    · have hn0 : ¬ m ≤ 0 := by omega
      have hgr := grown 0 (by omega) (Value.ownBlock (.slice none 0 0))
      simp only [Nat.zero_add, List.nil_append, Array.empty_append] at hgr ⊢
      refine ⟨_, _, e, ?_, hgr.1, hgr.2, fun g hg => .inl (by simp [Value.ownBlock] at hg; omega)⟩
      have h63' : ¬ (9223372036854775807 < (m : Int)) := by omega
      have h48' : ¬ (281474976710656 < Builtin.nextslicecap m 0 * i.bytes) := by rw [nextslicecap_zero (by omega)]; simp only [Nat.zero_add] at hprod; omega
      simp [Builtin.append_, run_underlying ht, run_underlying hu, sizeOf, typeInfo, zeroValue, hi, hz]
      cases du <;> first | (exact absurd rfl (hdu _)) | (simp [hlen, hm, h63', h48', Question.forced, run_firstCells_none, hdrew, newRow, grownCap])
  · by_cases hroom : n + m ≤ cap
    · have hfit : n * i.size + news.length ≤ cur.size := by rw [hl, hcs, ← Nat.add_mul]; exact Nat.mul_le_mul_right _ hroom
      have hst := run_storeCells_at P g (n * i.size) e0 news 0 cur w hg (by simpa using hfit) h1
      simp only [Nat.add_zero] at hst
      refine ⟨_, _, e0, ?_, ⟨hlenx, .inr ⟨g, cap, _, rfl, hbg, setRow_heap w g cur (cur.toList.take (n * i.size) ++ news ++ cur.toList.drop (n * i.size + news.length)).toArray e0 _ hg, hroom, hcm, ?_, ?_⟩⟩, ⟨rfl, rfl, rfl, by simp, fun k _ hk => setRow_other w g k _ (fun e => hk (by simp [Value.ownBlock, e]))⟩, fun g' hg' => .inr hg'⟩
      · simp [Builtin.append_, run_underlying ht, run_underlying hu, sizeOf, typeInfo, hi]
        cases du <;> first | (exact absurd rfl (hdu _)) | (simp [hlen, hroom, hfc0, Addr.add_lit, hst])
      · simp only [List.size_toArray, List.length_append, List.length_take, List.length_drop, Array.length_toList]
        omega
      · rw [htake, ← hlenx]
        exact List.take_left
    · have holds : ∀ j u, xs[j]? = some u → w.cell? ((⟨g, 0, none⟩ : Addr).add j) = some u := hown.cells (g := g) rfl
      have hfo := run_firstCells_some (P := P) w.drew i.size n ⟨g, 0, none⟩ n cap xs hown.1 (by simpa using holds)
      have hgr := grown cap (by omega) (Value.ownBlock (.slice (some ⟨g, 0, none⟩) n cap))
      refine ⟨_, _, e, ?_, hgr.1, hgr.2, fun g hg => .inl (by simp [Value.ownBlock] at hg; omega)⟩
      have h63' : ¬ (9223372036854775807 < ((n : Int) + (m : Int))) := by omega
      have hfits := growslice_fits (need := n + m) (old := cap) (bytes := i.bytes) (by omega) (by omega)
      have h48' : ¬ (281474976710656 < Builtin.nextslicecap (n + m) cap * i.bytes) := by omega
      simp [Builtin.append_, run_underlying ht, run_underlying hu, sizeOf, typeInfo, zeroValue, hi, hz]
      cases du <;> first | (exact absurd rfl (hdu _)) | (simp [hlen, hroom, h63', h48', Question.forced, hfo, hdrew, newRow, grownCap]; congr 2; apply Array.ext'; simp)

variable {F : Fx} {S : Nat → Prop} {own : Nat → Option Nat} {T : Nat → Value} {s : St} {a : Act} {M : List V} {R : Type}

/-- what is appended, as cells -/
structure Src (P : Program) (S : Nat → Prop) (w : World) (v : Value) (ar : Arr V) (news : List Value) : Prop where
  len : news.length = ar.len * ar.esz
  lenOf : (Builtin.lenOf v).run P w = .ok ar.len w
  cells : ∀ w1 : World, w1.heap = w.heap → (Builtin.firstCells ar.esz ar.len v).run P w1 = .ok news.toArray w1
  rep : ∀ (i : Nat) u (j : Nat) c, ar.toL[i]? = some u → u.cells[j]? = some c → ∃ x, news[i * ar.esz + j]? = some x ∧ RepL S w x c
  one : ∀ u ∈ news, u.oneCell' = true
  size : ∀ (i : Nat) u, ar.toL[i]? = some u → u.cells.length = ar.esz

theorem cell_heap {w w1 : World} (h : w1.heap = w.heap) (x : Addr) : w1.cell? x = w.cell? x := by simp [World.cell?, h]

theorem split_index {n m k : Nat} (h : k < n * m) : ∃ i j, i < n ∧ j < m ∧ k = i * m + j := by
  have hm : 0 < m := by
    rcases Nat.eq_zero_or_pos m with h0 | h0
    · subst h0; simp at h
    · exact h0
  refine ⟨k / m, k % m, ?_, Nat.mod_lt _ hm, ?_⟩
  · exact Nat.div_lt_of_lt_mul (by rw [Nat.mul_comm]; exact h)
  · have := Nat.div_add_mod k m
    rw [Nat.mul_comm] at this
    omega

theorem src_empty {v : Value} {ar : Arr V} (h0 : ar.len = 0) (hv : ∃ base cap, v = .slice base 0 cap) : Src P S w v ar [] := by
  obtain ⟨base, cap, rfl⟩ := hv
  have he : ar.toL = [] := List.eq_nil_of_length_eq_zero (by rw [Arr.length_toL]; exact h0)
  refine ⟨by simp [h0], by simp [Builtin.lenOf, h0], fun w1 _ => ?_, fun i u j c hi => by simp [he] at hi, by simp, fun i u hi => by simp [he] at hi⟩
  cases base <;> simp [Builtin.firstCells, h0, loadCells, loadCellsFrom]

theorem src_shared {v : Value} {ar : Arr V} (h : RepL S w v (.sl false ar)) : ∃ news, Src P S w v ar news := by
  cases h with
  | slE base cap _ h0 => exact ⟨[], src_empty h0 ⟨base, cap, rfl⟩⟩
  | sl b o len cap _ x hl hc hS hz hxx hr =>
    have at_ : ∀ k, k < ar.len * ar.esz → ∃ i u j c, ar.toL[i]? = some u ∧ u.cells[j]? = some c ∧ k = i * ar.esz + j := by
      intro k hk
      obtain ⟨i, j, hi, hj, e⟩ := split_index hk
      have hi' : i < ar.toL.length := by rw [Arr.length_toL]; exact hi
      have hs := hz i ar.toL[i] (List.getElem?_eq_getElem hi')
      exact ⟨i, ar.toL[i], j, (ar.toL[i]).cells[j]'(by omega), List.getElem?_eq_getElem hi', List.getElem?_eq_getElem (by omega), e⟩
    let news : List Value := (List.range (ar.len * ar.esz)).map fun k => (w.cell? ⟨b, o + k, none⟩).getD undef
    have hn : ∀ (i : Nat) u (j : Nat) c, ar.toL[i]? = some u → u.cells[j]? = some c → news[i * ar.esz + j]? = some (x i j) ∧ w.cell? ⟨b, o + (i * ar.esz + j), none⟩ = some (x i j) := by
      intro i u j c hi hj
      have h1 := hxx i u j c hi hj
      refine ⟨?_, h1⟩
      have hj' : j < ar.esz := by have := (List.getElem?_eq_some_iff.1 hj).1; rw [hz i u hi] at this; exact this
      have hi' : i < ar.len := by rw [← Arr.length_toL]; exact (List.getElem?_eq_some_iff.1 hi).1
      have hlt : i * ar.esz + j < ar.len * ar.esz := by
        have := Nat.mul_le_mul_right ar.esz (show i + 1 ≤ ar.len from hi')
        rw [Nat.add_mul] at this
        omega
      simp only [news, List.getElem?_map, List.getElem?_range hlt, Option.map_some, h1, Option.getD_some]
    refine ⟨news, by simp [news], by simp [Builtin.lenOf, hl], fun w1 hw1 => ?_, fun i u j c hi hj => ⟨x i j, (hn i u j c hi hj).1, hr i u j c hi hj⟩, fun u hu => ?_, hz⟩
    · refine run_firstCells_some (P := P) w1 ar.esz ar.len ⟨b, o, none⟩ len cap news (by simp [news]) (fun k v hv => ?_)
      have hk : k < ar.len * ar.esz := by have := (List.getElem?_eq_some_iff.1 hv).1; simpa [news] using this
      obtain ⟨i, u, j, c, hi, hj, rfl⟩ := at_ k hk
      have := hn i u j c hi hj
      rw [this.1] at hv; cases hv
      rw [Addr.add_mid, cell_heap hw1]
      exact this.2
    · obtain ⟨k, hk, rfl⟩ := List.getElem_of_mem hu
      have hk' : k < ar.len * ar.esz := by simpa [news] using hk
      obtain ⟨i, u', j, c, hi, hj, e⟩ := at_ k hk'
      have h1 := (hn i u' j c hi hj).1
      rw [← e, List.getElem?_eq_getElem hk] at h1
      rw [Option.some.inj h1]
      exact (hr i u' j c hi hj).one

theorem src_own {v : Value} {ar : Arr V} (h : OwnS S w v ar) : ∃ news, Src P S w v ar news ∧ ∃ e, w.ownsRow 0 e ar.esz v ar.len news := by
  obtain ⟨hp, ⟨e, xs, hown, hr⟩, hz⟩ := h
  have hone : ∀ u ∈ xs, u.oneCell' = true := by
    intro u hu
    obtain ⟨k, hk, rfl⟩ := List.getElem_of_mem hu
    obtain ⟨i, j, hi, hj, e⟩ := split_index (show k < ar.len * ar.esz by rw [← hown.1]; exact hk)
    have hi' : i < ar.toL.length := by rw [Arr.length_toL]; exact hi
    have hs := hz i ar.toL[i] (List.getElem?_eq_getElem hi')
    obtain ⟨x, h1, h2⟩ := hr i ar.toL[i] j ((ar.toL[i]).cells[j]'(by omega)) (List.getElem?_eq_getElem hi') (List.getElem?_eq_getElem (by omega))
    rw [← e, List.getElem?_eq_getElem hk] at h1
    cases h1
    exact h2.one
  refine ⟨xs, ?_, e, hown⟩
  rcases hown.2 with ⟨rfl, hn⟩ | ⟨g, cap, cur, rfl, _⟩
  · have hx : xs = [] := List.eq_nil_of_length_eq_zero (by rw [hown.1, hn]; simp)
    subst hx
    exact src_empty hn ⟨none, 0, rfl⟩
  · refine ⟨hown.1, by simp [Builtin.lenOf], fun w1 hw1 => ?_, hr, hone, hz⟩
    exact run_firstCells_some (P := P) w1 ar.esz ar.len ⟨g, 0, none⟩ ar.len cap xs hown.1 (fun j u hu => by rw [cell_heap hw1]; exact hown.cells (g := g) rfl j u hu)

theorem src_str {b : ByteArray} : Src P S w (.string b) (.ints .u8 (strBytes b)) ((strBytes b).map (Value.int .u8)) := by
  have hlen : (strBytes b).length = b.size := by rw [strBytes, List.length_map]; exact Array.length_toList
  refine ⟨by simp [Arr.len, Arr.esz], by simp [Builtin.lenOf, Arr.len, hlen], fun w1 _ => ?_, fun i u j c hi hj => ?_, fun u hu => ?_, fun i u hi => Arr.esz_cells _ (by simp) i u hi⟩
  · simp only [Builtin.firstCells, Sem.run_pure, Arr.len, hlen]
    congr 1
    apply Array.ext'
    simp only [Array.toList_map, strBytes, List.map_map]
    rw [show (b.extract 0 b.size) = b from by simp]
    rfl
  · simp only [Arr.toL, List.getElem?_map, Option.map_eq_some_iff] at hi
    obtain ⟨n, hn, rfl⟩ := hi
    have : j = 0 := by
      have := (List.getElem?_eq_some_iff.1 hj).1
      simp [V.cells] at this
      omega
    subst this
    simp only [V.cells, List.getElem?_cons_zero, Option.some.injEq] at hj
    subst hj
    exact ⟨.int .u8 n, by simp [Arr.esz, hn], .int ..⟩
  · obtain ⟨n, _, rfl⟩ := List.mem_map.1 hu
    rfl

theorem app_eq {x y : Arr V} {K : Arr V → Option R} {r : R} (h : x.app y K = some r) : ∃ z, K z = some r ∧ z.toL = x.toL ++ y.toL ∧ z.esz = x.esz ∧ z.len = x.len + y.len := by
  unfold Arr.app at h
  split at h
  · split at h
    · rename_i hk; subst hk; exact ⟨_, h, by simp [Arr.toL], rfl, by simp [Arr.len]⟩
    · exact absurd h (by simp)
  · exact ⟨_, h, by simp [Arr.toL], rfl, by simp [Arr.len]⟩
  · exact ⟨_, h, by simp [Arr.toL], rfl, by simp [Arr.len]⟩
  · split at h
    · rename_i hk; subst hk; exact ⟨_, h, by simp [Arr.toL], rfl, by simp [Arr.len]⟩
    · exact absurd h (by simp)
  · exact absurd h (by simp)

/-- owned rows, one behind the other -/
theorem ownS_app {v v' : Value} {x y z : Arr V} {xs news : List Value} {w' : World} {S' : Nat → Prop} (hx : Src P S w v x xs) {vy : Value} (hy : Src P S w vy y news) (hpos : 0 < x.esz) (he : y.esz = x.esz)
    (hz : z.toL = x.toL ++ y.toL) (hze : z.esz = x.esz) (hzl : z.len = x.len + y.len) {e' : TypeId} (hown : w'.ownsRow 0 e' x.esz v' (x.len + y.len) (xs ++ news)) (hS : ∀ b, S b → S' b) (hw : ∀ b, S b → w'.heap[b]? = w.heap[b]?) : OwnS S' w' v' z := by
  have hsz : ∀ (i : Nat) u, z.toL[i]? = some u → u.cells.length = z.esz := by
    intro i u hi
    rw [hz] at hi
    rw [hze]
    by_cases hlt : i < x.toL.length
    · rw [List.getElem?_append_left hlt] at hi
      exact hx.size i u hi
    · rw [List.getElem?_append_right (by omega)] at hi
      rw [← he]; exact hy.size _ u hi
  refine ⟨by rw [hze]; exact hpos, ⟨e', xs ++ news, by rw [hze, hzl]; exact hown, fun i u j c hi hj => ?_⟩, hsz⟩
  rw [hze]
  have hj' : j < x.esz := by rw [← hze, ← hsz i u hi]; exact (List.getElem?_eq_some_iff.1 hj).1
  rw [hz] at hi
  by_cases hlt : i < x.toL.length
  · rw [List.getElem?_append_left hlt] at hi
    obtain ⟨q, h1, h2⟩ := hx.rep i u j c hi hj
    exact ⟨q, by rw [List.getElem?_append_left (List.getElem?_eq_some_iff.1 h1).1]; exact h1, h2.mono hS hw⟩
  · rw [List.getElem?_append_right (by omega)] at hi
    obtain ⟨q, h1, h2⟩ := hy.rep _ u j c hi hj
    refine ⟨q, ?_, h2.mono hS hw⟩
    have hl := hx.len
    rw [Arr.length_toL] at hlt h1
    have e1 : i * x.esz = x.len * x.esz + (i - x.len) * x.esz := by rw [← Nat.add_mul]; congr 1; omega
    rw [List.getElem?_append_right (by omega), ← h1, he]
    congr 1
    omega
end
end Go.Proofs.Ytfkkigbbejhfbaa.Idl
