/- What the ideal values stand for in the machine's memory, and that it stays so. -/
import Derived.Test.YtfkkigbbejhfbaaIdeal
import Derived.Deep.MidRow
import Derived.Laws.AppendOwn
import Derived.Laws.OwnMore
import Derived.Laws.MakeOwn
import Derived.Laws.Slices
import Derived.Laws.Entries
namespace Go.Proofs.Ytfkkigbbejhfbaa.Idl
open Go
variable {P : Program}

/-- shared values that are no structs: 'S' are the blocks that nobody writes any more -/
inductive RepL (S : Nat → Prop) (w : World) : Value → V → Prop where
  | bool (b : Bool) : RepL S w (.bool b) (.bool b)
  | int (k : IntKind) (n : Int) : RepL S w (.int k n) (.int k n)
  | str (s : ByteArray) : RepL S w (.string s) (.str s)
  | nils : RepL S w (.slice none 0 0) .nils
  | nilp : RepL S w (.pointer none) .nilp
  | nilf : RepL S w .nilFunc .nilf
  | slE (base : Option Addr) (cap : Nat) (a : Arr V) (h : a.len = 0) : RepL S w (.slice base 0 cap) (.sl false a)
  | sl (b o len cap : Nat) (a : Arr V) (x : Nat → Nat → Value) (hl : a.len = len) (hc : len ≤ cap) (hS : S b)
      (hz : ∀ (i : Nat) (v : V), a.toL[i]? = some v → v.cells.length = a.esz)
      (hx : ∀ (i : Nat) (v : V) (j : Nat) (c : V), a.toL[i]? = some v → v.cells[j]? = some c → w.cell? ⟨b, o + (i * a.esz + j), none⟩ = some (x i j))
      (hr : ∀ (i : Nat) (v : V) (j : Nat) (c : V), a.toL[i]? = some v → v.cells[j]? = some c → RepL S w (x i j) c) :
      RepL S w (.slice (some ⟨b, o, none⟩) len cap) (.sl false a)
  | pv (b o off : Nat) (l : List V) (x : Nat → Value) (hS : S b)
      (hx : ∀ (j : Nat) (c : V), l[j]? = some c → w.cell? ⟨b, o + j, none⟩ = some (x j))
      (hr : ∀ (j : Nat) (c : V), l[j]? = some c → RepL S w (x j) c) : RepL S w (.pointer (some ⟨b, o + off, none⟩)) (.pv l off)
  | fn (f : Nat) (cap : List V) (xs : List Value) (hl : xs.length = cap.length)
      (hr : ∀ (j : Nat) (x : Value) (c : V), xs[j]? = some x → cap[j]? = some c → RepL S w x c) : RepL S w (.func (.func f) #[] xs.toArray) (.fn f cap)

theorem RepL.mono {S S' : Nat → Prop} {w w' : World} (hS : ∀ b, S b → S' b) (hw : ∀ b, S b → w'.heap[b]? = w.heap[b]?) {v : Value} {a : V} (h : RepL S w v a) : RepL S' w' v a := by
  induction h with
  | bool b => exact .bool b
  | int k n => exact .int k n
  | str s => exact .str s
  | nils => exact .nils
  | nilp => exact .nilp
  | nilf => exact .nilf
  | slE base cap a h => exact .slE base cap a h
  | sl b o len cap a x hl hc hs hz hx hr ih =>
    refine .sl b o len cap a x hl hc (hS b hs) hz (fun i v j c h1 h2 => ?_) ih
    rw [World.cell?_of_block (w := w) (hw b hs)]; exact hx i v j c h1 h2
  | pv b o off l x hs hx hr ih =>
    refine .pv b o off l x (hS b hs) (fun j c h1 => ?_) ih
    rw [World.cell?_of_block (w := w) (hw b hs)]; exact hx j c h1
  | fn f cap xs hl hr ih => exact .fn f cap xs hl ih

theorem RepL.one {S : Nat → Prop} {w : World} {v : Value} {a : V} (h : RepL S w v a) : v.oneCell' = true := by cases h <;> rfl

theorem RepL.cells {S : Nat → Prop} {w : World} {v : Value} {a : V} (h : RepL S w v a) : v.cells = #[v] ∧ a.cells = [a] := by cases h <;> exact ⟨rfl, rfl⟩

theorem RepL.ground_bool {S : Nat → Prop} {w : World} {v : Value} {b : Bool} (h : RepL S w v (.bool b)) : v = .bool b := by cases h; rfl
theorem RepL.ground_int {S : Nat → Prop} {w : World} {v : Value} {k : IntKind} {n : Int} (h : RepL S w v (.int k n)) : v = .int k n := by cases h; rfl
theorem RepL.ground_str {S : Nat → Prop} {w : World} {v : Value} {s : ByteArray} (h : RepL S w v (.str s)) : v = .string s := by cases h; rfl

theorem Arr.length_toL (a : Arr V) : a.toL.length = a.len := by cases a <;> simp [Arr.toL, Arr.len]
theorem Arr.esz_cells (a : Arr V) (h : ∀ n l, a ≠ .vals n l) (i : Nat) (v : V) (hv : a.toL[i]? = some v) : v.cells.length = a.esz := by
  cases a with
  | ints k l =>
    simp only [Arr.toL, List.getElem?_map, Option.map_eq_some_iff] at hv
    obtain ⟨x, _, rfl⟩ := hv; rfl
  | bools l =>
    simp only [Arr.toL, List.getElem?_map, Option.map_eq_some_iff] at hv
    obtain ⟨x, _, rfl⟩ := hv; rfl
  | strs l =>
    simp only [Arr.toL, List.getElem?_map, Option.map_eq_some_iff] at hv
    obtain ⟨x, _, rfl⟩ := hv; rfl
  | vals n l => exact absurd rfl (h n l)

/-- a slice that is owned: the whole of its block, its elements shared values -/
structure OwnS (S : Nat → Prop) (w : World) (v : Value) (a : Arr V) : Prop where
  pos : 0 < a.esz
  row : ∃ e xs, w.ownsRow 0 e a.esz v a.len xs ∧ (∀ (i : Nat) (u : V) (j : Nat) (c : V), a.toL[i]? = some u → u.cells[j]? = some c → ∃ x, xs[i * a.esz + j]? = some x ∧ RepL S w x c)
  size : ∀ (i : Nat) (u : V), a.toL[i]? = some u → u.cells.length = a.esz

theorem OwnS.mono {S S' : Nat → Prop} {w w' : World} {v : Value} {a : Arr V} (h : OwnS S w v a) (hS : ∀ b, S b → S' b) (hw : ∀ b, S b → w'.heap[b]? = w.heap[b]?)
    (ho : ∀ b, v.ownBlock = some b → w'.heap[b]? = w.heap[b]?) : OwnS S' w' v a := by
  obtain ⟨hp, ⟨e, xs, ⟨hl, hown⟩, hr⟩, hz⟩ := h
  refine ⟨hp, ⟨e, xs, ⟨hl, ?_⟩, fun i u j c h1 h2 => ?_⟩, hz⟩
  · rcases hown with hn | ⟨g, cap, cur, rfl, hb, hg, rest⟩
    · exact .inl hn
    · exact .inr ⟨g, cap, cur, rfl, hb, by rw [ho g rfl]; exact hg, rest⟩
  · obtain ⟨x, hx, hrx⟩ := hr i u j c h1 h2
    exact ⟨x, hx, hrx.mono hS hw⟩

/-- an owned slice, given up: a shared one -/
theorem OwnS.share {S : Nat → Prop} {w : World} {v : Value} {a : Arr V} (h : OwnS S w v a) (hb : ∀ b, v.ownBlock = some b → S b) : RepL S w v (.sl false a) := by
  obtain ⟨hp, ⟨e, xs, ⟨hl, hown⟩, hr⟩, hz⟩ := h
  rcases hown with ⟨rfl, hn⟩ | ⟨g, cap, cur, rfl, _, hg, hnc, hcm, hcs, htake⟩
  · exact .slE none 0 a hn
  · refine .sl g 0 a.len cap a (fun i j => (xs[i * a.esz + j]?).getD undef) rfl hnc (hb g rfl) hz (fun i u j c h1 h2 => ?_) (fun i u j c h1 h2 => ?_)
    · obtain ⟨x, hx, _⟩ := hr i u j c h1 h2
      rw [hx, Option.getD_some]
      have hlt : i * a.esz + j < xs.length := (List.getElem?_eq_some_iff.1 hx).1
      have : cur.toList[i * a.esz + j]? = some x := by
        rw [← hx, ← htake, List.getElem?_take, if_pos (by rw [hl] at hlt; omega)]
      simp only [World.cell?, hg]
      simpa using this
    · obtain ⟨x, hx, hrx⟩ := hr i u j c h1 h2
      rw [hx, Option.getD_some]; exact hrx

/-! ## frames -/

/-- temporaries and cells of owned objects -/
def RT (S : Nat → Prop) (w : World) (T : Nat → Value) (M : List V) (v : Value) : V → Prop
  | .dead => True
  | .rs id => id < M.length ∧ v = T id ∧ v.oneCell' = true
  | .pr id off => id < M.length ∧ ∃ b, T id = .pointer (some ⟨b, 0, none⟩) ∧ v = .pointer (some ⟨b, off, none⟩)
  | .er id i off => id < M.length ∧ ∀ o a, pl M id = .sl o a → i < a.len ∧ ∃ b len cap, T id = .slice (some ⟨b, 0, none⟩) len cap ∧ v = .pointer (some ⟨b, i * a.esz + off, none⟩)
  | c => RepL S w v c

def RTA (S : Nat → Prop) (w : World) (T : Nat → Value) (M : List V) (v : Value) : V → Prop
  | .agg l => ∃ cs : List Value, v = .agg cs.toArray ∧ cs.length = l.length ∧ ∀ (j : Nat) x c, cs[j]? = some x → l[j]? = some c → c ≠ .dead ∧ RT S w T M x c
  | c => RT S w T M v c

def RTV (S : Nat → Prop) (w : World) (T : Nat → Value) (M : List V) (v : Value) : V → Prop
  | .tup l => ∃ cs : List Value, v = .tuple cs.toArray ∧ cs.length = l.length ∧ ∀ (j : Nat) x c, cs[j]? = some x → l[j]? = some c → RTA S w T M x c
  | c => RTA S w T M v c

/-- what lies in a place -/
def PR (S : Nat → Prop) (w : World) (T : Nat → Value) (M : List V) (own : Nat → Option Nat) (id : Nat) : V → Prop
  | .sl true a => OwnS S w (T id) a ∧ ∀ b, (T id).ownBlock = some b → own b = some id
  | .sl false a => RepL S w (T id) (.sl false a)
  | .pt l => ∃ b cs e, T id = .pointer (some ⟨b, 0, none⟩) ∧ w.heap[b]? = some (.cells cs e (0, 0)) ∧ cs.size = l.length ∧
      (∀ (j : Nat) x c, cs[j]? = some x → l[j]? = some c → okCell c = true ∧ RT S w T M x c) ∧ own b = some id
  | .pv l off => off = 0 ∧ ∃ b, T id = .pointer (some ⟨b, 0, none⟩) ∧ RepL S w (T id) (.pv l 0)
  | .dead => True
  | _ => False

/-- what a frame is bound to: blocks that must stay, the world of the entry, what was shared at the entry, its object arguments -/
structure Fx where
  K : Nat → Prop
  w0 : World
  S0 : Nat → Prop
  A : List Value

structure FR (F : Fx) (S : Nat → Prop) (own : Nat → Option Nat) (T : Nat → Value) (s : St) (a : Act) (w : World) : Prop where
  len : a.tmps.size = s.tmps.length
  tmps : ∀ (t : Nat) v c, a.tmps[t]? = some v → s.tmps[t]? = some c → RTV S w T s.M v c
  places : ∀ (id : Nat) c, s.M[id]? = some c → PR S w T s.M own id c
  defers : a.defers = []
  own : ∀ b id, own b = some id → b < w.heap.size ∧ ¬ S b ∧ ¬ F.K b ∧ id < s.M.length
  slt : ∀ b, S b → b < w.heap.size
  keep : ∀ b, F.K b → b < F.w0.heap.size ∧ w.heap[b]? = F.w0.heap[b]?
  size : F.w0.heap.size ≤ w.heap.size
  outside : w.os = F.w0.os ∧ w.tape = F.w0.tape ∧ w.output = F.w0.output
  s0 : ∀ b, F.S0 b → S b
  sk : ∀ b, S b → F.S0 b ∨ ¬ F.K b
  s0k : ∀ b, F.S0 b → F.K b
  roots : s.roots.length = F.A.length ∧ ∀ (i : Nat) id v, s.roots[i]? = some id → F.A[i]? = some v → T id = v ∧ id < s.M.length

section
variable {S S' : Nat → Prop} {w w' : World} {T T' : Nat → Value} {M M' : List V}

/-- the way from one moment of a frame to a later one, for what lies in temporaries: places keep their shape, or die -/
structure Later (S S' : Nat → Prop) (w w' : World) (T T' : Nat → Value) (M M' : List V) : Prop where
  hS : ∀ b, S b → S' b
  hw : ∀ b, S b → w'.heap[b]? = w.heap[b]?
  hT : ∀ id, id < M.length → T' id = T id
  hM : M.length ≤ M'.length
  sl : ∀ id o a, id < M.length → pl M' id = .sl o a → ∃ o' a', pl M id = .sl o' a' ∧ a'.esz = a.esz ∧ a'.len = a.len

theorem Later.refl : Later S S w w T T M M := ⟨fun _ h => h, fun _ _ => rfl, fun _ _ => rfl, Nat.le_refl _, fun _ o a _ h => ⟨o, a, h, rfl, rfl⟩⟩

theorem RT.later (L : Later S S' w w' T T' M M') {v : Value} {c : V} (h : RT S w T M v c) : RT S' w' T' M' v c := by
  cases c with
  | rs id => exact ⟨Nat.lt_of_lt_of_le h.1 L.hM, by rw [L.hT id h.1]; exact h.2.1, h.2.2⟩
  | pr id off =>
    obtain ⟨hlt, b, h1, h2⟩ := h
    exact ⟨Nat.lt_of_lt_of_le hlt L.hM, b, by rw [L.hT id hlt]; exact h1, h2⟩
  | er id i off =>
    obtain ⟨hlt, h⟩ := h
    refine ⟨Nat.lt_of_lt_of_le hlt L.hM, fun o a hp => ?_⟩
    obtain ⟨o', a', hp', he, hle⟩ := L.sl id o a hlt hp
    obtain ⟨h0, b, len, cap, h1, h2⟩ := h o' a' hp'
    exact ⟨by omega, b, len, cap, by rw [L.hT id hlt]; exact h1, by rw [← he]; exact h2⟩
  | dead => trivial
  | bool b => exact RepL.mono L.hS L.hw h
  | int k n => exact RepL.mono L.hS L.hw h
  | str s => exact RepL.mono L.hS L.hw h
  | nils => exact RepL.mono L.hS L.hw h
  | nilp => exact RepL.mono L.hS L.hw h
  | nilf => exact RepL.mono L.hS L.hw h
  | sl o a => exact RepL.mono L.hS L.hw h
  | agg l => exact RepL.mono L.hS L.hw h
  | tup l => exact RepL.mono L.hS L.hw h
  | pv l off => exact RepL.mono L.hS L.hw h
  | pt l => exact RepL.mono L.hS L.hw h
  | fn f cap => exact RepL.mono L.hS L.hw h

theorem rta_eq {v : Value} {c : V} (hc : ∀ l, c ≠ .agg l) : RTA S w T M v c = RT S w T M v c := by
  cases c with
  | agg l => exact absurd rfl (hc l)
  | _ => rfl
theorem rtv_eq {v : Value} {c : V} (hc : ∀ l, c ≠ .tup l) : RTV S w T M v c = RTA S w T M v c := by
  cases c with
  | tup l => exact absurd rfl (hc l)
  | _ => rfl
theorem RTA.later (L : Later S S' w w' T T' M M') {v : Value} {c : V} (h : RTA S w T M v c) : RTA S' w' T' M' v c := by
  cases c with
  | agg l =>
    obtain ⟨cs, h1, h2, h3⟩ := h
    exact ⟨cs, h1, h2, fun j x c hx hc => ⟨(h3 j x c hx hc).1, (h3 j x c hx hc).2.later L⟩⟩
  | _ =>
    rw [rta_eq (by simp)] at h
    rw [rta_eq (by simp)]
    exact RT.later L h

theorem RTV.later (L : Later S S' w w' T T' M M') {v : Value} {c : V} (h : RTV S w T M v c) : RTV S' w' T' M' v c := by
  cases c with
  | tup l =>
    obtain ⟨cs, h1, h2, h3⟩ := h
    exact ⟨cs, h1, h2, fun j x c hx hc => (h3 j x c hx hc).later L⟩
  | _ =>
    rw [rtv_eq (by simp)] at h
    rw [rtv_eq (by simp)]
    exact RTA.later L h

theorem RT.of_rep {v : Value} {c : V} (h : RepL S w v c) : RT S w T M v c := by
  cases h with
  | bool b => exact .bool b
  | int k n => exact .int k n
  | str s => exact .str s
  | nils => exact .nils
  | nilp => exact .nilp
  | nilf => exact .nilf
  | slE base cap a h => exact .slE base cap a h
  | sl b o len cap a x hl hc hs hz hx hr => exact .sl b o len cap a x hl hc hs hz hx hr
  | pv b o off l x hs hx hr => exact .pv b o off l x hs hx hr
  | fn f cap xs hl hr => exact .fn f cap xs hl hr
theorem RTA.of_rt {v : Value} {c : V} (h : RT S w T M v c) (hc : ∀ l, c ≠ .agg l) : RTA S w T M v c := by
  cases c with
  | agg l => exact absurd rfl (hc l)
  | _ => exact h
theorem RTV.of_rta {v : Value} {c : V} (h : RTA S w T M v c) (hc : ∀ l, c ≠ .tup l) : RTV S w T M v c := by
  cases c with
  | tup l => exact absurd rfl (hc l)
  | _ => exact h
theorem RepL.not_agg {v : Value} {c : V} (h : RepL S w v c) : (∀ l, c ≠ .agg l) ∧ (∀ l, c ≠ .tup l) ∧ c ≠ .dead := by cases h <;> simp
theorem RTV.of_rep {v : Value} {c : V} (h : RepL S w v c) : RTV S w T M v c :=
  .of_rta (.of_rt (.of_rep h) h.not_agg.1) h.not_agg.2.1
end
end Go.Proofs.Ytfkkigbbejhfbaa.Idl
