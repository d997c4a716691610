/- Soundness of the interpreter, first half: values, places, simple operations, calls' values. -/
import Derived.Test.YtfkkigbbejhfbaaIdeal
import Derived.Deep.MidRow
import Derived.Laws.AppendOwn
import Derived.Laws.OwnMore
import Derived.Laws.MakeOwn
import Derived.Laws.Slices
import Derived.Laws.Entries
import Derived.OrdersIn
import Derived.TacticsIn
import Derived.LoopNIn
import Derived.LoopN
import Derived.RangeFuncIn
import Derived.RangeFuncLeaves
import Derived.RangeFuncCalls
import Derived.Laws.BytesArg
import Derived.Laws.IdiomStrings
import Derived.Laws.Pointers
import Derived.Laws.Concat
import Derived.Laws.Small
import Derived.Laws.Strings
import Derived.Laws.Tables
import Derived.Great.BuildSlice
/- What the ideal values stand for in the machine's memory, and that it stays so. -/
namespace Go.Proofs.Ytfkkigbbejhfbaa.Idl
open Go
variable {P : Program}

/-- shared values that are no structs: 'S' are the blocks that nobody writes any more -/
inductive RepL (S : Nat → Prop) (w : World) : Value → V → Prop where
  | bool (b : Bool) : RepL S w (.bool b) (.bool b)
  | int (k : IntKind) (n : Int) : RepL S w (.int k n) (.int k n)
  | str (s : ByteArray) : RepL S w (.string s) (.str s)
  | nils : RepL S w (.slice none 0 0) .nils
  | nilp : RepL S w (.pointer none) .nilp
  | nilf : RepL S w .nilFunc .nilf
  | slE (base : Option Addr) (cap : Nat) (a : Arr V) (h : a.len = 0) : RepL S w (.slice base 0 cap) (.sl false a)
  | sl (b o len cap : Nat) (a : Arr V) (x : Nat → Nat → Value) (hl : a.len = len) (hc : len ≤ cap) (hS : S b)
      (hz : ∀ (i : Nat) (v : V), a.toL[i]? = some v → v.cells.length = a.esz)
      (hx : ∀ (i : Nat) (v : V) (j : Nat) (c : V), a.toL[i]? = some v → v.cells[j]? = some c → w.cell? ⟨b, o + (i * a.esz + j), none⟩ = some (x i j))
      (hr : ∀ (i : Nat) (v : V) (j : Nat) (c : V), a.toL[i]? = some v → v.cells[j]? = some c → RepL S w (x i j) c) :
      RepL S w (.slice (some ⟨b, o, none⟩) len cap) (.sl false a)
  | pv (b o off : Nat) (l : List V) (x : Nat → Value) (hS : S b)
      (hx : ∀ (j : Nat) (c : V), l[j]? = some c → w.cell? ⟨b, o + j, none⟩ = some (x j))
      (hr : ∀ (j : Nat) (c : V), l[j]? = some c → RepL S w (x j) c) : RepL S w (.pointer (some ⟨b, o + off, none⟩)) (.pv l off)
  | fn (f : Nat) (cap : List V) (xs : List Value) (hl : xs.length = cap.length)
      (hr : ∀ (j : Nat) (x : Value) (c : V), xs[j]? = some x → cap[j]? = some c → RepL S w x c) : RepL S w (.func (.func f) #[] xs.toArray) (.fn f cap)

theorem RepL.mono {S S' : Nat → Prop} {w w' : World} (hS : ∀ b, S b → S' b) (hw : ∀ b, S b → w'.heap[b]? = w.heap[b]?) {v : Value} {a : V} (h : RepL S w v a) : RepL S' w' v a := by
  induction h with
  | bool b => exact .bool b
  | int k n => exact .int k n
  | str s => exact .str s
  | nils => exact .nils
  | nilp => exact .nilp
  | nilf => exact .nilf
  | slE base cap a h => exact .slE base cap a h
  | sl b o len cap a x hl hc hs hz hx hr ih =>
    refine .sl b o len cap a x hl hc (hS b hs) hz (fun i v j c h1 h2 => ?_) ih
    rw [World.cell?_of_block (w := w) (hw b hs)]; exact hx i v j c h1 h2
  | pv b o off l x hs hx hr ih =>
    refine .pv b o off l x (hS b hs) (fun j c h1 => ?_) ih
    rw [World.cell?_of_block (w := w) (hw b hs)]; exact hx j c h1
  | fn f cap xs hl hr ih => exact .fn f cap xs hl ih

theorem RepL.one {S : Nat → Prop} {w : World} {v : Value} {a : V} (h : RepL S w v a) : v.oneCell' = true := by cases h <;> rfl

theorem RepL.cells {S : Nat → Prop} {w : World} {v : Value} {a : V} (h : RepL S w v a) : v.cells = #[v] ∧ a.cells = [a] := by cases h <;> exact ⟨rfl, rfl⟩

theorem RepL.ground_bool {S : Nat → Prop} {w : World} {v : Value} {b : Bool} (h : RepL S w v (.bool b)) : v = .bool b := by cases h; rfl
theorem RepL.ground_int {S : Nat → Prop} {w : World} {v : Value} {k : IntKind} {n : Int} (h : RepL S w v (.int k n)) : v = .int k n := by cases h; rfl
theorem RepL.ground_str {S : Nat → Prop} {w : World} {v : Value} {s : ByteArray} (h : RepL S w v (.str s)) : v = .string s := by cases h; rfl

theorem Arr.length_toL (a : Arr V) : a.toL.length = a.len := by cases a <;> simp [Arr.toL, Arr.len]
theorem Arr.esz_cells (a : Arr V) (h : ∀ n l, a ≠ .vals n l) (i : Nat) (v : V) (hv : a.toL[i]? = some v) : v.cells.length = a.esz := by
  cases a with
  | ints k l =>
    simp only [Arr.toL, List.getElem?_map, Option.map_eq_some_iff] at hv
    obtain ⟨x, _, rfl⟩ := hv; rfl
  | bools l =>
    simp only [Arr.toL, List.getElem?_map, Option.map_eq_some_iff] at hv
    obtain ⟨x, _, rfl⟩ := hv; rfl
  | strs l =>
    simp only [Arr.toL, List.getElem?_map, Option.map_eq_some_iff] at hv
    obtain ⟨x, _, rfl⟩ := hv; rfl
  | vals n l => exact absurd rfl (h n l)

/-- a slice that is owned: the whole of its block, its elements shared values -/
structure OwnS (S : Nat → Prop) (w : World) (v : Value) (a : Arr V) : Prop where
  pos : 0 < a.esz
  row : ∃ e xs, w.ownsRow 0 e a.esz v a.len xs ∧ (∀ (i : Nat) (u : V) (j : Nat) (c : V), a.toL[i]? = some u → u.cells[j]? = some c → ∃ x, xs[i * a.esz + j]? = some x ∧ RepL S w x c)
  size : ∀ (i : Nat) (u : V), a.toL[i]? = some u → u.cells.length = a.esz

theorem OwnS.mono {S S' : Nat → Prop} {w w' : World} {v : Value} {a : Arr V} (h : OwnS S w v a) (hS : ∀ b, S b → S' b) (hw : ∀ b, S b → w'.heap[b]? = w.heap[b]?)
    (ho : ∀ b, v.ownBlock = some b → w'.heap[b]? = w.heap[b]?) : OwnS S' w' v a := by
  obtain ⟨hp, ⟨e, xs, ⟨hl, hown⟩, hr⟩, hz⟩ := h
  refine ⟨hp, ⟨e, xs, ⟨hl, ?_⟩, fun i u j c h1 h2 => ?_⟩, hz⟩
  · rcases hown with hn | ⟨g, cap, cur, rfl, hb, hg, rest⟩
    · exact .inl hn
    · exact .inr ⟨g, cap, cur, rfl, hb, by rw [ho g rfl]; exact hg, rest⟩
  · obtain ⟨x, hx, hrx⟩ := hr i u j c h1 h2
    exact ⟨x, hx, hrx.mono hS hw⟩

/-- an owned slice, given up: a shared one -/
theorem OwnS.share {S : Nat → Prop} {w : World} {v : Value} {a : Arr V} (h : OwnS S w v a) (hb : ∀ b, v.ownBlock = some b → S b) : RepL S w v (.sl false a) := by
  obtain ⟨hp, ⟨e, xs, ⟨hl, hown⟩, hr⟩, hz⟩ := h
  rcases hown with ⟨rfl, hn⟩ | ⟨g, cap, cur, rfl, _, hg, hnc, hcm, hcs, htake⟩
  · exact .slE none 0 a hn
  · refine .sl g 0 a.len cap a (fun i j => (xs[i * a.esz + j]?).getD undef) rfl hnc (hb g rfl) hz (fun i u j c h1 h2 => ?_) (fun i u j c h1 h2 => ?_)
    · obtain ⟨x, hx, _⟩ := hr i u j c h1 h2
      rw [hx, Option.getD_some]
      have hlt : i * a.esz + j < xs.length := (List.getElem?_eq_some_iff.1 hx).1
      have : cur.toList[i * a.esz + j]? = some x := by
        rw [← hx, ← htake, List.getElem?_take, if_pos (by rw [hl] at hlt; omega)]
      simp only [World.cell?, hg]
      simpa using this
    · obtain ⟨x, hx, hrx⟩ := hr i u j c h1 h2
      rw [hx, Option.getD_some]; exact hrx

theorem heap_alloc_o (w : World) (o : Obj) (i : Nat) (h : i < w.heap.size) : (w.alloc o).heap[i]? = w.heap[i]? := by
  show (w.heap.push o)[i]? = _
  rw [Array.getElem?_push_lt h, Array.getElem?_eq_getElem h]

/-! ## frames -/

/-- temporaries and cells of owned objects -/
def RT (S : Nat → Prop) (w : World) (T : Nat → Value) (M : List V) (v : Value) : V → Prop
  | .dead => True
  | .rs id => id < M.length ∧ v = T id ∧ v.oneCell' = true
  | .pr id off => id < M.length ∧ ∃ b, T id = .pointer (some ⟨b, 0, none⟩) ∧ v = .pointer (some ⟨b, off, none⟩)
  | .er id i off => id < M.length ∧ ∀ o a, pl M id = .sl o a → i < a.len ∧ ∃ b len cap, T id = .slice (some ⟨b, 0, none⟩) len cap ∧ v = .pointer (some ⟨b, i * a.esz + off, none⟩)
  | c => RepL S w v c

def RTA (S : Nat → Prop) (w : World) (T : Nat → Value) (M : List V) (v : Value) : V → Prop
  | .agg l => ∃ cs : List Value, v = .agg cs.toArray ∧ cs.length = l.length ∧ ∀ (j : Nat) x c, cs[j]? = some x → l[j]? = some c → c ≠ .dead ∧ RT S w T M x c
  | c => RT S w T M v c

def RTV (S : Nat → Prop) (w : World) (T : Nat → Value) (M : List V) (v : Value) : V → Prop
  | .tup l => ∃ cs : List Value, v = .tuple cs.toArray ∧ cs.length = l.length ∧ ∀ (j : Nat) x c, cs[j]? = some x → l[j]? = some c → RTA S w T M x c
  | c => RTA S w T M v c

/-- what lies in a place -/
def PR (S : Nat → Prop) (w : World) (T : Nat → Value) (M : List V) (own : Nat → Option Nat) (id : Nat) : V → Prop
  | .sl true a => OwnS S w (T id) a ∧ ∀ b, (T id).ownBlock = some b → own b = some id
  | .sl false a => RepL S w (T id) (.sl false a)
  | .pt l => ∃ b cs e, T id = .pointer (some ⟨b, 0, none⟩) ∧ w.heap[b]? = some (.cells cs e (0, 0)) ∧ cs.size = l.length ∧
      (∀ (j : Nat) x c, cs[j]? = some x → l[j]? = some c → okCell c = true ∧ RT S w T M x c) ∧ own b = some id
  | .pv l off => off = 0 ∧ ∃ b, T id = .pointer (some ⟨b, 0, none⟩) ∧ RepL S w (T id) (.pv l 0)
  | .dead => True
  | _ => False

/-- what a frame is bound to: blocks that must stay, the world of the entry, what was shared at the entry, its object arguments -/
structure Fx where
  K : Nat → Prop
  w0 : World
  S0 : Nat → Prop
  A : List Value
  D : List Deferred

structure FR (F : Fx) (S : Nat → Prop) (own : Nat → Option Nat) (T : Nat → Value) (s : St) (a : Act) (w : World) : Prop where
  len : a.tmps.size = s.tmps.length
  tmps : ∀ (t : Nat) v c, a.tmps[t]? = some v → s.tmps[t]? = some c → RTV S w T s.M v c
  places : ∀ (id : Nat) c, s.M[id]? = some c → PR S w T s.M own id c
  defers : a.defers = F.D
  own : ∀ b id, own b = some id → b < w.heap.size ∧ ¬ S b ∧ ¬ F.K b ∧ id < s.M.length
  slt : ∀ b, S b → b < w.heap.size
  keep : ∀ b, F.K b → b < F.w0.heap.size ∧ w.heap[b]? = F.w0.heap[b]?
  size : F.w0.heap.size ≤ w.heap.size
  outside : w.os = F.w0.os ∧ w.tape = F.w0.tape ∧ w.output = F.w0.output
  s0 : ∀ b, F.S0 b → S b
  sk : ∀ b, S b → F.S0 b ∨ ¬ F.K b
  s0k : ∀ b, F.S0 b → F.K b
  roots : s.roots.length = F.A.length ∧ ∀ (i : Nat) id v, s.roots[i]? = some id → F.A[i]? = some v → T id = v ∧ id < s.M.length

section
variable {S S' : Nat → Prop} {w w' : World} {T T' : Nat → Value} {M M' : List V}

/-- the way from one moment of a frame to a later one, for what lies in temporaries: places keep their shape, or die -/
structure Later (S S' : Nat → Prop) (w w' : World) (T T' : Nat → Value) (M M' : List V) : Prop where
  hS : ∀ b, S b → S' b
  hw : ∀ b, S b → w'.heap[b]? = w.heap[b]?
  hT : ∀ id, id < M.length → T' id = T id
  hM : M.length ≤ M'.length
  sl : ∀ id o a, id < M.length → pl M' id = .sl o a → ∃ o' a', pl M id = .sl o' a' ∧ a'.esz = a.esz ∧ a'.len = a.len

theorem Later.refl : Later S S w w T T M M := ⟨fun _ h => h, fun _ _ => rfl, fun _ _ => rfl, Nat.le_refl _, fun _ o a _ h => ⟨o, a, h, rfl, rfl⟩⟩

theorem RT.later (L : Later S S' w w' T T' M M') {v : Value} {c : V} (h : RT S w T M v c) : RT S' w' T' M' v c := by
  cases c with
  | rs id => exact ⟨Nat.lt_of_lt_of_le h.1 L.hM, by rw [L.hT id h.1]; exact h.2.1, h.2.2⟩
  | pr id off =>
    obtain ⟨hlt, b, h1, h2⟩ := h
    exact ⟨Nat.lt_of_lt_of_le hlt L.hM, b, by rw [L.hT id hlt]; exact h1, h2⟩
  | er id i off =>
    obtain ⟨hlt, h⟩ := h
    refine ⟨Nat.lt_of_lt_of_le hlt L.hM, fun o a hp => ?_⟩
    obtain ⟨o', a', hp', he, hle⟩ := L.sl id o a hlt hp
    obtain ⟨h0, b, len, cap, h1, h2⟩ := h o' a' hp'
    exact ⟨by omega, b, len, cap, by rw [L.hT id hlt]; exact h1, by rw [← he]; exact h2⟩
  | dead => trivial
  | bool b => exact RepL.mono L.hS L.hw h
  | int k n => exact RepL.mono L.hS L.hw h
  | str s => exact RepL.mono L.hS L.hw h
  | nils => exact RepL.mono L.hS L.hw h
  | nilp => exact RepL.mono L.hS L.hw h
  | nilf => exact RepL.mono L.hS L.hw h
  | sl o a => exact RepL.mono L.hS L.hw h
  | agg l => exact RepL.mono L.hS L.hw h
  | tup l => exact RepL.mono L.hS L.hw h
  | pv l off => exact RepL.mono L.hS L.hw h
  | pt l => exact RepL.mono L.hS L.hw h
  | fn f cap => exact RepL.mono L.hS L.hw h

theorem rta_eq {v : Value} {c : V} (hc : ∀ l, c ≠ .agg l) : RTA S w T M v c = RT S w T M v c := by
  cases c with
  | agg l => exact absurd rfl (hc l)
  | _ => rfl
theorem rtv_eq {v : Value} {c : V} (hc : ∀ l, c ≠ .tup l) : RTV S w T M v c = RTA S w T M v c := by
  cases c with
  | tup l => exact absurd rfl (hc l)
  | _ => rfl
theorem RTA.later (L : Later S S' w w' T T' M M') {v : Value} {c : V} (h : RTA S w T M v c) : RTA S' w' T' M' v c := by
  cases c with
  | agg l =>
    obtain ⟨cs, h1, h2, h3⟩ := h
    exact ⟨cs, h1, h2, fun j x c hx hc => ⟨(h3 j x c hx hc).1, (h3 j x c hx hc).2.later L⟩⟩
  | _ =>
    rw [rta_eq (by simp)] at h
    rw [rta_eq (by simp)]
    exact RT.later L h

theorem RTV.later (L : Later S S' w w' T T' M M') {v : Value} {c : V} (h : RTV S w T M v c) : RTV S' w' T' M' v c := by
  cases c with
  | tup l =>
    obtain ⟨cs, h1, h2, h3⟩ := h
    exact ⟨cs, h1, h2, fun j x c hx hc => (h3 j x c hx hc).later L⟩
  | _ =>
    rw [rtv_eq (by simp)] at h
    rw [rtv_eq (by simp)]
    exact RTA.later L h

theorem RT.of_rep {v : Value} {c : V} (h : RepL S w v c) : RT S w T M v c := by
  cases h with
  | bool b => exact .bool b
  | int k n => exact .int k n
  | str s => exact .str s
  | nils => exact .nils
  | nilp => exact .nilp
  | nilf => exact .nilf
  | slE base cap a h => exact .slE base cap a h
  | sl b o len cap a x hl hc hs hz hx hr => exact .sl b o len cap a x hl hc hs hz hx hr
  | pv b o off l x hs hx hr => exact .pv b o off l x hs hx hr
  | fn f cap xs hl hr => exact .fn f cap xs hl hr
theorem RTA.of_rt {v : Value} {c : V} (h : RT S w T M v c) (hc : ∀ l, c ≠ .agg l) : RTA S w T M v c := by
  cases c with
  | agg l => exact absurd rfl (hc l)
  | _ => exact h
theorem RTV.of_rta {v : Value} {c : V} (h : RTA S w T M v c) (hc : ∀ l, c ≠ .tup l) : RTV S w T M v c := by
  cases c with
  | tup l => exact absurd rfl (hc l)
  | _ => exact h
theorem RepL.not_agg {v : Value} {c : V} (h : RepL S w v c) : (∀ l, c ≠ .agg l) ∧ (∀ l, c ≠ .tup l) ∧ c ≠ .dead := by cases h <;> simp
theorem RTV.of_rep {v : Value} {c : V} (h : RepL S w v c) : RTV S w T M v c :=
  .of_rta (.of_rt (.of_rep h) h.not_agg.1) h.not_agg.2.1
end
end Go.Proofs.Ytfkkigbbejhfbaa.Idl
/- The simple operations: what the machine makes of them is what the ideal value stands for. -/
namespace Go.Proofs.Ytfkkigbbejhfbaa.Idl
open Go
variable {P : Program}

/-- a zero cell -/
def ZeroL (x : Value) : V → Prop
  | .int k n => n = 0 ∧ x = .int k 0
  | .bool b => b = false ∧ x = .bool false
  | .str s => x = .string s
  | .nilp => x = .pointer none
  | .nilf => x = .nilFunc
  | .sl o a => o = false ∧ a.len = 0 ∧ 0 < a.esz ∧ x = .slice none 0 0
  | _ => False
def descOK (P : Program) (t : TypeId) (d : TD) : Prop :=
  match d with
  | .int k => P.underlying t = some (.int k)
  | .bool => P.underlying t = some .bool
  | .str => P.underlying t = some .string
  | .sl e => P.underlying t = some (.slice e)
  | .ptr e => P.underlying t = some (.pointer e)
  | .struct fs => ∃ fields : Array Field, P.underlying t = some (.struct fields) ∧ fields.size = fs.length ∧
      ∀ (i o ft : Nat), fs[i]? = some (o, ft) → ∃ f, fields[i]? = some f ∧ f.offset = o ∧ f.type = ft ∧ ∃ k, P.info? ft = some k ∧ k.size ≠ 0
  | .other => ∃ u, P.underlying t = some u ∧ u.isRow = false
structure TyOK (P : Program) (t : TypeId) (ti : TI) : Prop where
  desc : descOK P t ti.d
  info : ∃ i z, P.info? t = some i ∧ i.size = ti.size ∧ i.bytes = ti.bytes ∧ i.zero = some z ∧ z.cells.size = ti.size ∧ ti.zero.length = ti.size ∧
    (∀ (j : Nat) x c, z.cells[j]? = some x → ti.zero[j]? = some c → ZeroL x c)
  one : (∀ fs, ti.d ≠ .struct fs) → ti.size = 1
  row : (∃ fs, ti.d = .struct fs) → ∃ cs, (match ti.d with | .struct _ => True | _ => False) ∧ ∀ i z, P.info? t = some i → i.zero = some z → z = .agg cs
  pos : 0 < ti.size
  ek : match ti.ek with
    | .ints _ | .bools | .strs => ti.size = 1
    | .vals n => n = ti.size
/-- what a function that works on a slice in place owes -/
def InpOK (P : Program) (f : Nat) (ret : Bool) (ok : Arr V → Bool) (g : Arr V → Arr V) : Prop :=
  ∀ (S : Nat → Prop) (w : World) (v : Value) (a : Arr V), OwnS S w v a → (∀ b, v.ownBlock = some b → ¬ S b) → ok a = true →
    (ret = false → (g a).len = a.len ∧ (g a).esz = a.esz) ∧ Calls P f #[v] w fun e w' => ∃ v', e = .returned (cond ret v' (.tuple #[])) ∧ (ret = false → v' = v) ∧ OwnS S w' v' (g a) ∧
      (∀ b, v'.ownBlock = some b → v.ownBlock = some b) ∧ w.heap.size ≤ w'.heap.size ∧ (w'.os = w.os ∧ w'.tape = w.tape ∧ w'.output = w.output) ∧
      ∀ b, b < w.heap.size → v.ownBlock ≠ some b → w'.heap[b]? = w.heap[b]?
structure EnvOK (P : Program) (E : Env) : Prop where
  ty : ∀ t ti, E.ty t = some ti → TyOK P t ti
  fn : ∀ f fn, E.fn f = some fn → P.funcs[f]? = some fn ∧ (fn.name == "runtime.NumGoroutine") = false ∧ fn.body.isSome = true
  inp : ∀ f ret ok g, E.inp f = some (ret, ok, g) → InpOK P f ret ok g

section
variable {F : Fx} {S : Nat → Prop} {own : Nat → Option Nat} {T : Nat → Value} {s : St} {a : Act} {w : World} {M : List V} {R : Type}

theorem ofConst_rep (v : Value) : RTV S w T M v (ofConst v) := by
  unfold ofConst
  split <;> first | exact .of_rep (by constructor) | trivial

theorem FR.eval (h : FR F S own T s a w) (x : Operand) : RTV S w T s.M (a.eval x) (s.eval x) := by
  cases x with
  | tmp t =>
    show RTV S w T s.M (a.tmps.getD t undef) (s.tmps.getD t .dead)
    by_cases ht : t < s.tmps.length
    · have h1 : a.tmps[t]? = some (a.tmps[t]'(by rw [h.len]; exact ht)) := Array.getElem?_eq_getElem _
      have h2 : s.tmps[t]? = some s.tmps[t] := List.getElem?_eq_getElem ht
      have := h.tmps t _ _ h1 h2
      simpa [Array.getD_eq_getD_getElem?, List.getD_eq_getElem?_getD, h1, h2] using this
    · have h2 : s.tmps[t]? = none := List.getElem?_eq_none (Nat.not_lt.1 ht)
      simp only [List.getD_eq_getElem?_getD, h2, Option.getD_none]
      trivial
  | const v => exact ofConst_rep v
  | global g => trivial
  | func f => exact .of_rep (.fn f [] [] rfl (fun j x c hx => by simp at hx))

theorem FR.put (h : FR F S own T s a w) {v : Value} {c : V} (d : Option Tmp) (hc : RTV S w T s.M v c) : FR F S own T (s.put d c) (a.put d v) w := by
  cases d with
  | none => exact h
  | some d =>
    refine { h with len := ?_, tmps := ?_ }
    · simp [Act.put, St.put, h.len]
    · intro t v' c' hv' hc'
      simp only [Act.put, St.put, Array.getElem?_setIfInBounds, List.getElem?_set] at hv' hc' ⊢
      by_cases hd : d = t
      · subst hd
        simp only [if_true] at hv' hc'
        split at hv' <;> split at hc' <;> simp_all
      · rw [if_neg hd] at hv' hc'
        exact h.tmps t v' c' hv' hc'

theorem FR.put_undef (h : FR F S own T s a w) (d : Option Tmp) (v : Value) : FR F S own T (s.put d .dead) (a.put d v) w := h.put d trivial

/-- where code runs: in a function's own frame, or in a round of a loop over a function -/
def Zr : Option Nat → Fence
  | none => Fence.wide
  | some l => Fence.wide.inRound l
theorem Zr_fn (rd : Option Nat) (f : Nat) : (Zr rd).fn f := by cases rd <;> trivial
theorem Zr_depth (rd : Option Nat) : (Zr rd).depth = none := by cases rd <;> rfl
theorem Zr_round (rd : Option Nat) : (Zr rd).round = rd := by cases rd <;> rfl
theorem calls_z {f : FuncId} {args : Array Value} {w : World} {Q : Ending → World → Prop} (rd : Option Nat) (n : Nat) (h : Calls P f args w Q) : CallsIn (Zr rd) n P f args w Q := by
  have := (callsIn_wide (n := n)).2 h
  cases rd with
  | none => exact this
  | some l => exact this
theorem not_defer {o : Oper} {x : Next} {w' : World} (hrun : (execOp a.eval o).run P w = .ok x w') (hx : ∀ d, x ≠ .defer d) : ∀ c, o.op ≠ .defer c := by
  intro c hc
  unfold execOp at hrun
  rw [hc] at hrun
  simp only [Sem.run_bind] at hrun
  cases hr : (resolve a.eval c o.type).run P w with
  | ok d w1 =>
    rw [hr] at hrun
    simp only [Result.andThen, Sem.run_pure, Result.ok.injEq] at hrun
    exact hx d hrun.1.symm
  | _ => rw [hr] at hrun; simp [Result.andThen] at hrun
variable {rd : Option Nat} {nz : Nat}
theorem wp_value {o : Oper} {v : Value} {w' : World} {K : Act → World → Prop} {Q : Exit → Act → World → Prop} (hrun : (execOp a.eval o).run P w = .ok (.value v) w') (h : K (a.put o.dst v) w') : o.wpIn (Zr rd) nz P a w K Q := by
  refine ⟨fun f _ => Zr_fn rd f, ?_⟩
  rw [Zr_round, Oper.semAt_eq rd a.eval o (not_defer hrun (fun d => by simp)), hrun]
  exact h
theorem wp_skip' {o : Oper} {w' : World} {K : Act → World → Prop} {Q : Exit → Act → World → Prop} (hrun : (execOp a.eval o).run P w = .ok .skip w') (h : K (a.put o.dst undef) w') : o.wpIn (Zr rd) nz P a w K Q := by
  refine ⟨fun f _ => Zr_fn rd f, ?_⟩
  rw [Zr_round, Oper.semAt_eq rd a.eval o (not_defer hrun (fun d => by simp)), hrun]
  exact h

theorem rtv_int {v : Value} {k : IntKind} {n : Int} (h : RTV S w T M v (.int k n)) : v = .int k n := RepL.ground_int h
theorem rtv_bool {v : Value} {b : Bool} (h : RTV S w T M v (.bool b)) : v = .bool b := RepL.ground_bool h
theorem rtv_str {v : Value} {b : ByteArray} (h : RTV S w T M v (.str b)) : v = .string b := RepL.ground_str h
theorem rtv_nilp {v : Value} (h : RTV S w T M v .nilp) : v = .pointer none := by cases (show RepL S w v .nilp from h); rfl
theorem rtv_nils {v : Value} (h : RTV S w T M v .nils) : v = .slice none 0 0 := by cases (show RepL S w v .nils from h); rfl
theorem rtv_pv {v : Value} {l : List V} {off : Nat} (h : RTV S w T M v (.pv l off)) : RepL S w v (.pv l off) := h
theorem rtv_sl {v : Value} {o : Bool} {a : Arr V} (h : RTV S w T M v (.sl o a)) : RepL S w v (.sl o a) := h
theorem rtv_pr {v : Value} {id off : Nat} (h : RTV S w T M v (.pr id off)) : RT S w T M v (.pr id off) := h
theorem rtv_fn {v : Value} {f : Nat} {cap : List V} (h : RTV S w T M v (.fn f cap)) : RepL S w v (.fn f cap) := h

/-! ### numbers, strings, bools -/

theorem intOp_sound {op : BinOp} {k : IntKind} {x y : Int} {Kc : V → Option R} {r : R} (t : TypeId) (hop : op ≠ .shl ∧ op ≠ .shr) (h : intOp op k x y Kc = some r) :
    ∃ v c, (binOp op t (.int k x) (.int k y)).run P w = .ok v w ∧ RTV S w T M v c ∧ Kc c = some r := by
  cases op <;> simp only [intOp, reduceCtorEq] at h
  case add => exact ⟨_, _, by simp [binOp, Op.intArith], .of_rep (.int ..), h⟩
  case sub => exact ⟨_, _, by simp [binOp, Op.intArith], .of_rep (.int ..), h⟩
  case mul => exact ⟨_, _, by simp [binOp, Op.intArith], .of_rep (.int ..), h⟩
  case quo =>
    split at h
    · exact absurd h (by simp)
    · rename_i hy
      exact ⟨_, _, by simp [binOp, Op.intDiv, hy], .of_rep (.int ..), h⟩
  case rem =>
    split at h
    · exact absurd h (by simp)
    · rename_i hy
      exact ⟨_, _, by simp [binOp, Op.intDiv, hy], .of_rep (.int ..), h⟩
  case and => exact ⟨_, _, by simp [binOp, Op.intBits], .of_rep (.int ..), h⟩
  case or => exact ⟨_, _, by simp [binOp, Op.intBits], .of_rep (.int ..), h⟩
  case xor => exact ⟨_, _, by simp [binOp, Op.intBits], .of_rep (.int ..), h⟩
  case eql => exact ⟨_, _, by simp [binOp, Op.intCmp], .of_rep (.bool ..), h⟩
  case neq => exact ⟨_, _, by simp [binOp, Op.intCmp], .of_rep (.bool ..), h⟩
  case lss => exact ⟨_, _, by simp [binOp, Op.intCmp], .of_rep (.bool ..), h⟩
  case leq => exact ⟨_, _, by simp [binOp, Op.intCmp], .of_rep (.bool ..), h⟩
  case gtr => exact ⟨_, _, by simp [binOp, Op.intCmp], .of_rep (.bool ..), h⟩
  case geq => exact ⟨_, _, by simp [binOp, Op.intCmp], .of_rep (.bool ..), h⟩

theorem shiftOp_sound {op : BinOp} {k k' : IntKind} {x y : Int} {Kc : V → Option R} {r : R} (t : TypeId) (hop : op = .shl ∨ op = .shr) (h : shiftOp op k x y Kc = some r) :
    ∃ v c, (binOp op t (.int k x) (.int k' y)).run P w = .ok v w ∧ RTV S w T M v c ∧ Kc c = some r := by
  unfold shiftOp at h
  split at h
  · exact absurd h (by simp)
  · rename_i hy
    rcases hop with rfl | rfl
    · exact ⟨_, _, by simp [binOp, Op.shift, hy], .of_rep (.int ..), h⟩
    · exact ⟨_, _, by simp [binOp, Op.shift, hy], .of_rep (.int ..), h⟩

theorem strOp_sound {op : BinOp} {x y : ByteArray} {Kc : V → Option R} {r : R} (t : TypeId) (h : strOp op x y Kc = some r) :
    ∃ v c, (binOp op t (.string x) (.string y)).run P w = .ok v w ∧ RTV S w T M v c ∧ Kc c = some r := by
  cases op <;> simp only [strOp, reduceCtorEq] at h
  case add =>
    split at h
    · rename_i hle
      exact ⟨_, _, by simp only [binOp]; exact run_string_add_sum w x y hle, .of_rep (.str ..), h⟩
    · exact absurd h (by simp)
  case eql => exact ⟨_, _, by simp [binOp, Op.stringOp], .of_rep (.bool ..), h⟩
  case neq => exact ⟨_, _, by simp [binOp, Op.stringOp], .of_rep (.bool ..), h⟩
  case lss => exact ⟨_, _, by simp [binOp, Op.stringOp], .of_rep (.bool ..), h⟩
  case leq => exact ⟨_, _, by simp [binOp, Op.stringOp], .of_rep (.bool ..), h⟩
  case gtr => exact ⟨_, _, by simp [binOp, Op.stringOp], .of_rep (.bool ..), h⟩
  case geq => exact ⟨_, _, by simp [binOp, Op.stringOp], .of_rep (.bool ..), h⟩

theorem eqGuard_run (op : BinOp) (t : TypeId) (ox oy : Operand) (x y : Value) (h1 : ∀ cs, x ≠ .agg cs) (h2 : x ≠ .nilIface) : (eqGuard op t ox oy x y).run P w = .ok () w := by
  unfold eqGuard
  cases x <;> (try exact absurd rfl (h1 _)) <;> (try exact absurd rfl h2) <;> (split <;> rfl)

theorem isBool_ok {E : Env} (hE : EnvOK P E) {t : Nat} (h : isBool E t = true) : P.underlying t = some .bool := by
  unfold isBool at h
  split at h
  · rename_i ti hti
    have := (hE.ty t ti hti).desc
    split at h
    · rename_i hd; rw [hd] at this; exact this
    · exact absurd h (by simp)
  · exact absurd h (by simp)
theorem isPtr_ok {E : Env} (hE : EnvOK P E) {t : Nat} (h : isPtr E t = true) : ∃ e, P.underlying t = some (.pointer e) := by
  unfold isPtr at h
  split at h
  · rename_i ti hti
    have := (hE.ty t ti hti).desc
    split at h
    · rename_i e hd; rw [hd] at this; exact ⟨e, this⟩
    · exact absurd h (by simp)
  · exact absurd h (by simp)
theorem equal_ptr {t e : TypeId} (p : Option Addr) (h : P.underlying t = some (.pointer e)) : (Op.equal t (.pointer p) (.pointer none)).run P w = .ok p.isNone w :=
  run_equal_pointer_nil w t p (by rw [h]; simp [Program.pointee, h])

theorem binOpV_sound {E : Env} (hE : EnvOK P E) {op : BinOp} {t : Nat} {ox oy : Operand} {vx vy : Value} {x y : V} {Kc : V → Option R} {r : R} (hx : RTV S w T M vx x) (hy : RTV S w T M vy y)
    (h : binOpV E op t x y Kc = some r) :
    ∃ v c, (do eqGuard op t ox oy vx vy; binOp op t vx vy : Sem Value).run P w = .ok v w ∧ RTV S w T M v c ∧ Kc c = some r := by
  have key : (∀ cs, vx ≠ .agg cs) → vx ≠ .nilIface → (∃ v c, (binOp op t vx vy).run P w = .ok v w ∧ RTV S w T M v c ∧ Kc c = some r) →
      ∃ v c, (do eqGuard op t ox oy vx vy; binOp op t vx vy : Sem Value).run P w = .ok v w ∧ RTV S w T M v c ∧ Kc c = some r := by
    rintro h1 h2 ⟨v, c, hr, hc⟩
    exact ⟨v, c, by rw [Sem.run_bind, eqGuard_run op t ox oy vx vy h1 h2]; exact hr, hc⟩
  have eqb : ∀ (u v : Bool), P.underlying t = some .bool → (binOp .eql t (.bool u) (.bool v)).run P w = .ok (.bool (u == v)) w ∧ (binOp .neq t (.bool u) (.bool v)).run P w = .ok (.bool (!(u == v))) w := by
    intro u v hu
    exact ⟨by simp [binOp, run_equal_bool w t u v hu], by simp [binOp, run_equal_bool w t u v hu]⟩
  have eqp : ∀ (p : Option Addr) e, P.underlying t = some (.pointer e) → (binOp .eql t (.pointer p) (.pointer none)).run P w = .ok (.bool p.isNone) w ∧ (binOp .neq t (.pointer p) (.pointer none)).run P w = .ok (.bool (!p.isNone)) w := by
    intro p e hu
    exact ⟨by simp [binOp, equal_ptr p hu], by simp [binOp, equal_ptr p hu]⟩
  unfold binOpV at h
  split at h
  · have e1 := rtv_int hx
    have e2 := rtv_int hy
    subst e1 e2
    refine key (by simp) (by simp) ?_
    split at h
    · exact shiftOp_sound t (.inl rfl) h
    · exact shiftOp_sound t (.inr rfl) h
    · rename_i n1 n2
      split at h
      · rename_i hk
        subst hk
        exact intOp_sound t ⟨n1, n2⟩ h
      · exact absurd h (by simp)
  · have e1 := rtv_str hx
    have e2 := rtv_str hy
    subst e1 e2
    exact key (by simp) (by simp) (strOp_sound t h)
  · have e1 := rtv_bool hx
    have e2 := rtv_bool hy
    subst e1 e2
    refine key (by simp) (by simp) ?_
    split at h
    · split at h
      · rename_i hb
        exact ⟨_, _, (eqb _ _ (isBool_ok hE hb)).1, .of_rep (.bool ..), h⟩
      · exact absurd h (by simp)
    · split at h
      · rename_i hb
        exact ⟨_, _, (eqb _ _ (isBool_ok hE hb)).2, .of_rep (.bool ..), h⟩
      · exact absurd h (by simp)
    · exact absurd h (by simp)
  · have e2 := rtv_nilp hy
    subst e2
    obtain ⟨ad, e1⟩ : ∃ ad, vx = .pointer (some ad) := by cases rtv_pv hx; exact ⟨_, rfl⟩
    subst e1
    refine key (by simp) (by simp) ?_
    split at h
    · split at h
      · rename_i hb
        obtain ⟨e, hu⟩ := isPtr_ok hE hb
        exact ⟨_, _, (eqp _ e hu).1, .of_rep (.bool ..), h⟩
      · exact absurd h (by simp)
    · split at h
      · rename_i hb
        obtain ⟨e, hu⟩ := isPtr_ok hE hb
        exact ⟨_, _, (eqp _ e hu).2, .of_rep (.bool ..), h⟩
      · exact absurd h (by simp)
    · exact absurd h (by simp)
  · have e2 := rtv_nilp hy
    subst e2
    obtain ⟨ad, e1⟩ : ∃ ad, vx = .pointer (some ad) := by obtain ⟨_, b, _, e⟩ := rtv_pr hx; exact ⟨_, e⟩
    subst e1
    refine key (by simp) (by simp) ?_
    split at h
    · split at h
      · rename_i hb
        obtain ⟨e, hu⟩ := isPtr_ok hE hb
        exact ⟨_, _, (eqp _ e hu).1, .of_rep (.bool ..), h⟩
      · exact absurd h (by simp)
    · split at h
      · rename_i hb
        obtain ⟨e, hu⟩ := isPtr_ok hE hb
        exact ⟨_, _, (eqp _ e hu).2, .of_rep (.bool ..), h⟩
      · exact absurd h (by simp)
    · exact absurd h (by simp)
  · have e1 := rtv_nilp hx
    have e2 := rtv_nilp hy
    subst e1 e2
    refine key (by simp) (by simp) ?_
    split at h
    · split at h
      · rename_i hb
        obtain ⟨e, hu⟩ := isPtr_ok hE hb
        exact ⟨_, _, (eqp _ e hu).1, .of_rep (.bool ..), h⟩
      · exact absurd h (by simp)
    · split at h
      · rename_i hb
        obtain ⟨e, hu⟩ := isPtr_ok hE hb
        exact ⟨_, _, (eqp _ e hu).2, .of_rep (.bool ..), h⟩
      · exact absurd h (by simp)
    · exact absurd h (by simp)
  · exact absurd h (by simp)

theorem unOpV_sound {op : UnOp} {vx : Value} {x : V} {Kc : V → Option R} {r : R} (hx : RTV S w T M vx x) (h : unOpV op x Kc = some r) :
    ∃ v c, (Op.unary op vx).run P w = .ok v w ∧ RTV S w T M v c ∧ Kc c = some r := by
  unfold unOpV at h
  split at h
  · have e := rtv_bool hx
    subst e
    exact ⟨_, _, by simp [Op.unary], .of_rep (.bool ..), h⟩
  · have e := rtv_int hx
    subst e
    exact ⟨_, _, by simp [Op.unary, Op.intArith], .of_rep (.int ..), h⟩
  · exact absurd h (by simp)

theorem pickV_sound {vc va vb : Value} {x y z : V} {Kc : V → Option R} {r : R} (hx : RTV S w T M vc x) (hy : RTV S w T M va y) (hz : RTV S w T M vb z) (h : pickV x y z Kc = some r) :
    ∃ v c, (do pure (.value (if ← asBool vc then va else vb)) : Sem Next).run P w = .ok (.value v) w ∧ RTV S w T M v c ∧ Kc c = some r := by
  unfold pickV at h
  split at h
  · rename_i b
    have e1 := rtv_bool hx
    subst e1
    cases b with
    | true => exact ⟨_, _, by simp [asBool], hy, h⟩
    | false => exact ⟨_, _, by simp [asBool], hz, h⟩
  · exact absurd h (by simp)
end
end Go.Proofs.Ytfkkigbbejhfbaa.Idl
/- The simple operations that read memory. -/
namespace Go.Proofs.Ytfkkigbbejhfbaa.Idl
open Go
variable {P : Program}
section
variable {F : Fx} {S : Nat → Prop} {own : Nat → Option Nat} {T : Nat → Value} {s : St} {a : Act} {w : World} {M : List V} {R : Type}

/-! ### shapes -/
theorem asInt_eq {k : IntKind} {v : V} {K : Int → Option R} {r : R} (h : v.asInt k K = some r) : ∃ n, v = .int k n ∧ K n = some r := by
  unfold V.asInt at h
  split at h
  · split at h
    · rename_i hk; subst hk; exact ⟨_, rfl, h⟩
    · exact absurd h (by simp)
  · exact absurd h (by simp)
theorem asBool_eq {v : V} {K : Bool → Option R} {r : R} (h : v.asBool K = some r) : ∃ n, v = .bool n ∧ K n = some r := by
  unfold V.asBool at h
  split at h
  · exact ⟨_, rfl, h⟩
  · exact absurd h (by simp)
theorem asStr_eq {v : V} {K : ByteArray → Option R} {r : R} (h : v.asStr K = some r) : ∃ n, v = .str n ∧ K n = some r := by
  unfold V.asStr at h
  split at h
  · exact ⟨_, rfl, h⟩
  · exact absurd h (by simp)
theorem as_eq {a : Arr V} {e : EK} {K : Arr V → Option R} {r : R} (h : a.as e K = some r) : K a = some r := by
  unfold Arr.as at h
  split at h
  · split at h
    · rename_i hk; subst hk; exact h
    · exact absurd h (by simp)
  · exact h
  · exact h
  · split at h
    · rename_i hk; subst hk; exact h
    · exact absurd h (by simp)
  · exact absurd h (by simp)
theorem asSl_eq {o : Bool} {e : EK} {v : V} {K : Arr V → Option R} {r : R} (h : v.asSl o e K = some r) : ∃ a, v = .sl o a ∧ K a = some r := by
  unfold V.asSl at h
  split at h
  · split at h
    · rename_i hk; subst hk; exact ⟨_, rfl, as_eq h⟩
    · exact absurd h (by simp)
  · exact absurd h (by simp)
theorem SL.chk_eq {l : SL} {v : V} {K : V → Option R} {r : R} (h : l.chk v K = some r) : K v = some r := by
  cases l with
  | any => exact h
  | int k => obtain ⟨n, rfl, h'⟩ := asInt_eq h; exact h'
  | bool => obtain ⟨n, rfl, h'⟩ := asBool_eq h; exact h'
  | str => obtain ⟨n, rfl, h'⟩ := asStr_eq h; exact h'
  | sl o e => obtain ⟨n, rfl, h'⟩ := asSl_eq h; exact h'
theorem chkL_eq : ∀ {l : List SL} {vs : List V} {K : List V → Option R} {r : R}, chkL l vs K = some r → K vs = some r
  | [], [], _, _, h => h
  | [], _ :: _, _, _, h => by simp [chkL, seeCons, seeNil] at h
  | _ :: _, [], _, _, h => by simp [chkL, seeCons, seeNil] at h
  | l :: ls, v :: vs, K, r, h => by
    simp only [chkL, seeCons, seeNil] at h
    have h2 := SL.chk_eq h
    exact chkL_eq (l := ls) (K := fun vs' => K (v :: vs')) h2
theorem chkP_eq : ∀ {l : List (List SL)} {vs : List V} {K : List V → Option R} {r : R}, chkP l vs K = some r → K vs = some r
  | [], [], _, _, h => h
  | [], _ :: _, _, _, h => by simp [chkP, seeCons, seeNil] at h
  | _ :: _, [], _, _, h => by simp [chkP, seeCons, seeNil] at h
  | l :: ls, v :: vs, K, r, h => by
    simp only [chkP, seeCons, seeNil, V.asPv] at h
    split at h
    · split at h
      · rename_i h0
        subst h0
        have h2 := chkL_eq h
        exact chkP_eq (l := ls) (K := fun vs' => K (_ :: vs')) h2
      · exact absurd h (by simp)
    · exact absurd h (by simp)
theorem S1.chk_eq {l : S1} {v : V} {K : V → Option R} {r : R} (h : l.chk v K = some r) : K v = some r := by
  cases l with
  | leaf s => exact SL.chk_eq h
  | agg l =>
    simp only [S1.chk, V.asAgg] at h
    split at h
    · exact chkL_eq h
    · exact absurd h (by simp)
  | pt l =>
    simp only [S1.chk, V.asPt] at h
    split at h
    · exact chkL_eq h
    · exact absurd h (by simp)
  | pv l =>
    simp only [S1.chk, V.asPv] at h
    split at h
    · split at h
      · rename_i h0; subst h0; exact chkL_eq h
      · exact absurd h (by simp)
    · exact absurd h (by simp)
  | fnp f l =>
    simp only [S1.chk, V.asFn] at h
    split at h
    · split at h
      · rename_i h0; subst h0; exact chkP_eq h
      · exact absurd h (by simp)
    · exact absurd h (by simp)
  | pvn l =>
    simp only [S1.chk, V.asPvn] at h
    split at h
    · exact h
    · split at h
      · rename_i h0; subst h0; exact chkL_eq h
      · exact absurd h (by simp)
    · exact absurd h (by simp)
theorem chkL1_eq : ∀ {l : List S1} {vs : List V} {K : List V → Option R} {r : R}, chkL1 l vs K = some r → K vs = some r
  | [], [], _, _, h => h
  | [], _ :: _, _, _, h => by simp [chkL1, seeCons, seeNil] at h
  | _ :: _, [], _, _, h => by simp [chkL1, seeCons, seeNil] at h
  | l :: ls, v :: vs, K, r, h => by
    simp only [chkL1, seeCons, seeNil] at h
    have h2 := S1.chk_eq h
    exact chkL1_eq (l := ls) (K := fun vs' => K (v :: vs')) h2
theorem Sh.chk_eq {l : Sh} {v : V} {K : V → Option R} {r : R} (h : l.chk v K = some r) : K v = some r := by
  cases l with
  | one s => exact S1.chk_eq h
  | tup l =>
    simp only [Sh.chk, V.asTup] at h
    split at h
    · exact chkL1_eq h
    · exact absurd h (by simp)

theorem get_eq {a : Arr V} {i : Nat} {K : V → Option R} {r : R} (h : a.get i K = some r) : ∃ v, a.toL[i]? = some v ∧ K v = some r := by
  unfold Arr.get at h
  cases a <;> simp only at h <;> split at h <;> first | exact absurd h (by simp) | (rename_i x hx; exact ⟨_, by simp [Arr.toL, hx]; try rfl, h⟩)

/-! ### cells -/
def CellsAt (S : Nat → Prop) (w : World) (T : Nat → Value) (M : List V) (b o : Nat) (l : List V) : Prop :=
  ∀ (j : Nat) c, l[j]? = some c → ∃ x, w.cell? ⟨b, o + j, none⟩ = some x ∧ c ≠ .dead ∧ RT S w T M x c

theorem cellsAt_pv {v : Value} {l : List V} {off : Nat} (h : RepL S w v (.pv l off)) : ∃ b o, v = .pointer (some ⟨b, o + off, none⟩) ∧ S b ∧ CellsAt S w T M b o l ∧
    (∀ (j : Nat) c, l[j]? = some c → ∃ x, w.cell? ⟨b, o + j, none⟩ = some x ∧ RepL S w x c) := by
  cases h with
  | pv b o off l x hS hx hr => exact ⟨b, o, rfl, hS, fun j c hc => ⟨x j, hx j c hc, (hr j c hc).not_agg.2.2, .of_rep (hr j c hc)⟩, fun j c hc => ⟨x j, hx j c hc, hr j c hc⟩⟩

theorem isAgg_false {t : TypeId} {d : TypeDesc} (h : P.underlying t = some d) (hd : d.isRow = false) : (isAgg t).run P w = .ok false w := by
  unfold isAgg
  rw [Sem.run_bind, run_underlying h w]
  cases d <;> simp_all [TypeDesc.isRow]

theorem TyOK.not_row {t : Nat} {ti : TI} (h : TyOK P t ti) (hs : ∀ fs, ti.d ≠ .struct fs) : ∃ d, P.underlying t = some d ∧ d.isRow = false := by
  have := h.desc
  cases hd : ti.d with
  | struct fs => exact absurd hd (hs fs)
  | int k => rw [hd] at this; exact ⟨_, this, rfl⟩
  | bool => rw [hd] at this; exact ⟨_, this, rfl⟩
  | str => rw [hd] at this; exact ⟨_, this, rfl⟩
  | sl e => rw [hd] at this; exact ⟨_, this, rfl⟩
  | ptr e => rw [hd] at this; exact ⟨_, this, rfl⟩
  | other => rw [hd] at this; exact this

theorem run_loadAt_one {t : Nat} {ti : TI} (h : TyOK P t ti) (hs : ∀ fs, ti.d ≠ .struct fs) {b o : Nat} {x : Value} (hx : w.cell? ⟨b, o, none⟩ = some x) :
    (Instr.loadAt t (.pointer (some ⟨b, o, none⟩))).run P w = .ok x w := by
  obtain ⟨d, hu, hd⟩ := h.not_row hs
  simp only [Instr.loadAt, Instr.sureAddr, loadVar, Sem.run_bind, Sem.run_pure, Result.andThen_ok, isAgg_false hu hd, run_load, hx, Bool.false_eq_true, if_false]

theorem fromCells_sound {t : Nat} {ti : TI} (h : TyOK P t ti) {b o off : Nat} {l : List V} {Kc : V → Option R} {r : R} (hc : CellsAt S w T M b o l) (hf : fromCells ti l off Kc = some r) :
    ∃ v c, (Instr.loadAt t (.pointer (some ⟨b, o + off, none⟩))).run P w = .ok v w ∧ RTV S w T M v c ∧ Kc c = some r := by
  unfold fromCells at hf
  split at hf
  · rename_i fs hd
    split at hf
    · rename_i hle
      obtain ⟨i, z, hi, hsz, _, hz, _, _, _⟩ := h.info
      have hdesc := h.desc
      rw [hd] at hdesc
      obtain ⟨fields, hu, _, _⟩ := hdesc
      let xs : List Value := (List.range ti.size).map fun j => (w.cell? ⟨b, o + off + j, none⟩).getD undef
      have hlen : xs.length = ti.size := by simp [xs]
      have hget : ∀ (j : Nat), j < ti.size → ∃ c x, (l.drop off).take ti.size = (l.drop off).take ti.size ∧ ((l.drop off).take ti.size)[j]? = some c ∧ w.cell? ⟨b, o + off + j, none⟩ = some x ∧ xs[j]? = some x ∧ c ≠ .dead ∧ RT S w T M x c := by
        intro j hj
        have hjl : off + j < l.length := by omega
        obtain ⟨x, hx, hdead, hrt⟩ := hc (off + j) l[off + j] (List.getElem?_eq_getElem hjl)
        refine ⟨l[off + j], x, rfl, ?_, by rw [← Nat.add_assoc] at hx; exact hx, ?_, hdead, hrt⟩
        · rw [List.getElem?_take, if_pos hj, List.getElem?_drop, List.getElem?_eq_getElem hjl]
        · simp only [xs, List.getElem?_map]
          rw [List.getElem?_range hj]
          rw [← Nat.add_assoc] at hx
          simp [hx]
      refine ⟨.agg xs.toArray, .agg ((l.drop off).take ti.size), ?_, ?_, hf⟩
      · refine run_loadAt_mid w b (o + off) t xs _ (fun j v hv => ?_) hu rfl (by rw [hi]; simp [hsz, hlen])
        have hj : j < ti.size := by have := (List.getElem?_eq_some_iff.1 hv).1; omega
        obtain ⟨c, x, _, _, h2, h3, _, _⟩ := hget j hj
        rw [h3] at hv; cases hv; exact h2
      · refine ⟨xs, rfl, by simp [hlen]; omega, fun j x c hx hc' => ?_⟩
        have hj : j < ti.size := by have := (List.getElem?_eq_some_iff.1 hx).1; omega
        obtain ⟨c2, x2, _, h1, _, h3, h4, h5⟩ := hget j hj
        rw [h3] at hx; rw [h1] at hc'; cases hx; cases hc'
        exact ⟨h4, h5⟩
    · exact absurd hf (by simp)
  · rename_i hs
    split at hf
    · rename_i v hv
      obtain ⟨x, hx, hdead, hrt⟩ := hc off v hv
      refine ⟨x, v, run_loadAt_one h (fun fs hfs => hs fs hfs) hx, ?_, hf⟩
      cases v with
      | agg l => exact absurd (show RepL S w x (.agg l) from hrt) (fun h => by cases h)
      | tup l => exact absurd (show RepL S w x (.tup l) from hrt) (fun h => by cases h)
      | _ => exact hrt
    · exact absurd hf (by simp)

theorem pl_eq {M : List V} {id : Nat} {c : V} (h : pl M id = c) (hc : c ≠ .dead) : M[id]? = some c := by
  unfold pl at h
  rw [List.getD_eq_getElem?_getD] at h
  cases hm : M[id]? with
  | none => rw [hm] at h; exact absurd h.symm hc
  | some c' => rw [hm] at h; exact congrArg some h

theorem FR.place (h : FR F S own T s a w) {id : Nat} {c : V} (hp : pl s.M id = c) (hc : c ≠ .dead) : PR S w T s.M own id c := h.places id c (pl_eq hp hc)

/-- the elements of an owned slice, as cells -/
theorem ownS_cells {v : Value} {ar : Arr V} (h : OwnS S w v ar) {b len cap : Nat} (hv : v = .slice (some ⟨b, 0, none⟩) len cap) {i : Nat} {u : V} (hu : ar.toL[i]? = some u) :
    ∀ (j : Nat) c, u.cells[j]? = some c → ∃ x, w.cell? ⟨b, i * ar.esz + j, none⟩ = some x ∧ RepL S w x c := by
  intro j c hc
  obtain ⟨hp, ⟨e, xs, ⟨hl, hown⟩, hr⟩, hz⟩ := h
  rcases hown with ⟨hn, _⟩ | ⟨g, cap', cur, hv', _, hg, hnc, _, hcs, htake⟩
  · rw [hv] at hn; cases hn
  · rw [hv] at hv'; cases hv'
    obtain ⟨x, hx, hrx⟩ := hr i u j c hu hc
    refine ⟨x, ?_, hrx⟩
    have hlt : i * ar.esz + j < xs.length := (List.getElem?_eq_some_iff.1 hx).1
    have : cur.toList[i * ar.esz + j]? = some x := by
      rw [← hx, ← htake, List.getElem?_take, if_pos (by rw [hl] at hlt; omega)]
    simp only [World.cell?, hg]
    simpa using this

theorem loadV_sound {E : Env} (hE : EnvOK P E) (hF : FR F S own T s a w) {t : Nat} {va : Value} {x : V} {Kc : V → Option R} {r : R} (hx : RTV S w T s.M va x) (h : loadV E s.M t x Kc = some r) :
    ∃ v c, (Instr.loadAt t va).run P w = .ok v w ∧ RTV S w T s.M v c ∧ Kc c = some r := by
  unfold loadV at h
  split at h
  · exact absurd h (by simp)
  · rename_i ti hti
    have hT := hE.ty t ti hti
    split at h
    · obtain ⟨b, o, rfl, _, hc, _⟩ := cellsAt_pv (T := T) (M := s.M) (rtv_pv hx)
      exact fromCells_sound hT hc h
    · rename_i id off
      obtain ⟨hlt, b, hTid, rfl⟩ := rtv_pr hx
      split at h
      · rename_i l hpl
        obtain ⟨b', cs, e, h1, h2, h3, h4, _⟩ := hF.place hpl (by simp)
        rw [h1] at hTid; cases hTid
        have hc : CellsAt S w T s.M b 0 l := by
          intro j c hj
          have hjs : j < cs.size := by rw [h3]; exact (List.getElem?_eq_some_iff.1 hj).1
          obtain ⟨hok, hrt⟩ := h4 j cs[j] c (Array.getElem?_eq_getElem hjs) hj
          refine ⟨cs[j], ?_, fun hd => by subst hd; simp [okCell] at hok, hrt⟩
          simp only [World.cell?, h2, Nat.zero_add]
          simp [Array.getElem?_eq_getElem hjs]
        have := fromCells_sound hT hc h
        simpa using this
      · rename_i l off' hpl
        obtain ⟨h0, b', h1, hrep⟩ := hF.place hpl (by simp)
        subst h0
        obtain ⟨b2, o, he, _, hc, _⟩ := cellsAt_pv (T := T) (M := s.M) hrep
        rw [h1] at he
        rw [h1] at hTid
        cases hTid
        cases he
        have := fromCells_sound hT hc h
        simpa using this
      · exact absurd h (by simp)
    · rename_i id i off
      obtain ⟨hlt, hrt⟩ := (show RT S w T s.M va (.er id i off) from hx)
      split at h
      · rename_i o ar hpl
        obtain ⟨_, b, len, cap, hTid, rfl⟩ := hrt o ar hpl
        obtain ⟨u, hu, h⟩ := get_eq h
        have h := S1.chk_eq h
        have hc : CellsAt S w T s.M b (i * ar.esz) u.cells := by
          intro j c hj
          have hP := hF.place hpl (by simp)
          cases o with
          | true =>
            obtain ⟨x, hx, hr⟩ := ownS_cells hP.1 hTid hu j c hj
            exact ⟨x, hx, hr.not_agg.2.2, .of_rep hr⟩
          | false =>
            have hP : RepL S w (T id) (.sl false ar) := hP
            rw [hTid] at hP
            cases hP with
            | slE base cap a h0 => 
              have := (List.getElem?_eq_some_iff.1 hu).1
              rw [Arr.length_toL, h0] at this
              omega
            | sl b o len cap a x hl hcp hS hz hxx hr =>
              have := hxx i u j c hu hj
              simp only [Nat.zero_add] at this
              exact ⟨_, this, (hr i u j c hu hj).not_agg.2.2, .of_rep (hr i u j c hu hj)⟩
        exact fromCells_sound hT hc h
      · exact absurd h (by simp)
    · exact absurd h (by simp)
end
end Go.Proofs.Ytfkkigbbejhfbaa.Idl
/- The simple operations, all of them but calls. -/
namespace Go.Proofs.Ytfkkigbbejhfbaa.Idl
open Go
variable {P : Program}
section
variable {F : Fx} {S : Nat → Prop} {own : Nat → Option Nat} {T : Nat → Value} {s : St} {a : Act} {w : World} {M : List V} {R : Type}

theorem run_fieldAt_ok {t f o : Nat} {fields : Array Field} {fl : Field} {k : TypeInfo} (hu : P.underlying t = some (.struct fields)) (hf : fields[f]? = some fl) (ho : fl.offset = o)
    (hi : P.info? fl.type = some k) (hk : k.size ≠ 0) (b off : Nat) :
    (Instr.fieldAt t (.pointer (some ⟨b, off, none⟩)) f).run P w = .ok (.pointer (some ⟨b, off + o, none⟩)) w := by
  simp only [Instr.fieldAt, Sem.run_bind, run_underlying hu, Result.andThen_ok, hf, Instr.sureAddr, Sem.run_pure, fieldPlace, sizeOf, typeInfo, run_program, hi, hk, if_false, Addr.add_mid, ho]

theorem fieldAddrV_sound {E : Env} (hE : EnvOK P E) {t f : Nat} {vx : Value} {x : V} {Kc : V → Option R} {r : R} (hx : RTV S w T M vx x) (h : fieldAddrV E M t x f Kc = some r) :
    ∃ v c, (Instr.fieldAt t vx f).run P w = .ok v w ∧ RTV S w T M v c ∧ Kc c = some r := by
  unfold fieldAddrV at h
  split at h
  · exact absurd h (by simp)
  · rename_i ti hti
    split at h
    · rename_i fs hd
      have hdesc := (hE.ty t ti hti).desc
      rw [hd] at hdesc
      obtain ⟨fields, hu, _, hfs⟩ := hdesc
      split at h
      · exact absurd h (by simp)
      · rename_i o ft hfo
        obtain ⟨fl, hfl, ho, hft, k, hk, hk0⟩ := hfs f o ft hfo
        have hrun := fun b off => run_fieldAt_ok (w := w) hu hfl ho (by rw [hft]; exact hk) hk0 b off
        split at h
        · rename_i l off
          have hx := rtv_pv hx
          cases hx with
          | pv b o0 off l x hS hxx hr =>
            exact ⟨_, _, by rw [hrun, Nat.add_assoc], .of_rep (.pv b o0 (off + o) l x hS hxx hr), h⟩
        · rename_i id off
          obtain ⟨hlt, b, hT, rfl⟩ := rtv_pr hx
          exact ⟨_, .pr id (off + o), hrun b off, show RT S w T M _ (.pr id (off + o)) from ⟨hlt, b, hT, rfl⟩, h⟩
        · rename_i id i off
          obtain ⟨hlt, hrt⟩ := (show RT S w T M vx (.er id i off) from hx)
          split at h
          · rename_i o' ar hpl
            obtain ⟨hil, b, len, cap, hT, rfl⟩ := hrt o' ar hpl
            refine ⟨_, .er id i (off + o), hrun b _, show RT S w T M _ (.er id i (off + o)) from ⟨hlt, fun o2 a2 h2 => ?_⟩, h⟩
            rw [hpl] at h2; cases h2
            exact ⟨hil, b, len, cap, hT, by rw [Nat.add_assoc]⟩
          · exact absurd h (by simp)
        · exact absurd h (by simp)
    · exact absurd h (by simp)

theorem fieldV_sound {E : Env} (hE : EnvOK P E) {t f : Nat} {vx : Value} {x : V} {Kc : V → Option R} {r : R} (hx : RTV S w T M vx x) (h : fieldV E t x f Kc = some r) :
    ∃ v c, (Instr.field t vx f).run P w = .ok v w ∧ RTV S w T M v c ∧ Kc c = some r := by
  unfold fieldV at h
  split at h
  · exact absurd h (by simp)
  · rename_i ti hti
    split at h
    · rename_i fs hd
      have hdesc := (hE.ty t ti hti).desc
      rw [hd] at hdesc
      obtain ⟨fields, hu, _, hfs⟩ := hdesc
      split at h
      · exact absurd h (by simp)
      · rename_i o ft hfo
        obtain ⟨fl, hfl, ho, hft, k, hk, hk0⟩ := hfs f o ft hfo
        split at h
        · rename_i fi l hfi
          obtain ⟨cs, rfl, hlen, hcs⟩ := (show RTA S w T M vx (.agg l) from hx)
          have hF := hE.ty ft fi hfi
          have hrun : ∀ v, (part fl.type cs.toArray fl.offset).run P w = .ok v w → (Instr.field t (.agg cs.toArray) f).run P w = .ok v w := by
            intro v hv
            simp only [Instr.field, Sem.run_bind, run_underlying hu, Result.andThen_ok, hfl, asAgg, Sem.run_pure, hv]
          rw [hft, ho] at hrun
          unfold fromCells at h
          split at h
          · rename_i fs' hd'
            split at h
            · rename_i hle
              obtain ⟨i, z, hi, hsz, _, hz, _, _, _⟩ := hF.info
              have hdesc' := hF.desc
              rw [hd'] at hdesc'
              obtain ⟨fields', hu', _, _⟩ := hdesc'
              refine ⟨.agg ((cs.drop o).take fi.size).toArray, .agg ((l.drop o).take fi.size), hrun _ ?_, ⟨_, rfl, by simp [hlen], fun j x c hx hc => ?_⟩, h⟩
              · have hagg : (isAgg ft).run P w = .ok true w := by
                  unfold isAgg
                  rw [Sem.run_bind, run_underlying hu' w]
                  rfl
                have hsz' : (sizeOf ft).run P w = .ok fi.size w := by simp [sizeOf, typeInfo, hi, hsz]
                simp only [part, Sem.run_bind, hagg, Result.andThen_ok, if_true, hsz', Sem.run_pure]
                congr 2
                apply Array.ext'
                simp [List.take_drop]
              · rw [List.getElem?_take] at hx hc
                split at hx
                · rename_i hj
                  rw [if_pos hj] at hc
                  rw [List.getElem?_drop] at hx hc
                  exact hcs (o + j) x c hx hc
                · exact absurd hx (by simp)
            · exact absurd h (by simp)
          · rename_i hs
            split at h
            · rename_i c hc
              have hlt : o < cs.length := by rw [hlen]; exact (List.getElem?_eq_some_iff.1 hc).1
              obtain ⟨hdead, hrt⟩ := hcs o cs[o] c (List.getElem?_eq_getElem hlt) hc
              obtain ⟨d, hu', hd'⟩ := hF.not_row (fun fs hfs => hs fs hfs)
              refine ⟨cs[o], c, hrun _ ?_, ?_, h⟩
              · simp only [part, Sem.run_bind, isAgg_false hu' hd', Result.andThen_ok, Bool.false_eq_true, if_false]
                simp [hlt]
              · cases c with
                | agg l => exact absurd rfl ((show RepL S w _ (.agg l) from hrt).not_agg.1 l)
                | tup l => exact absurd rfl ((show RepL S w _ (.tup l) from hrt).not_agg.2.1 l)
                | _ => exact hrt
            · exact absurd h (by simp)
        · exact absurd h (by simp)
    · exact absurd h (by simp)

theorem elemTI_ok {E : Env} (hE : EnvOK P E) {t : Nat} {te : TI} (h : elemTI E t = some te) : ∃ e, P.underlying t = some (.slice e) ∧ E.ty e = some te ∧ TyOK P e te := by
  unfold elemTI at h
  split at h
  · rename_i ti hti
    split at h
    · rename_i e hd
      have := (hE.ty t ti hti).desc
      rw [hd] at this
      exact ⟨e, this, h, hE.ty e te h⟩
    · exact absurd h (by simp)
  · exact absurd h (by simp)

theorem TyOK.sizeOf {e : Nat} {te : TI} (h : TyOK P e te) : (Go.sizeOf e).run P w = .ok te.size w := by
  obtain ⟨i, z, hi, hsz, _⟩ := h.info
  simp [Go.sizeOf, typeInfo, hi, hsz]

theorem run_indexAt_ok {t e : Nat} {te : TI} (hu : P.underlying t = some (.slice e)) (hT : TyOK P e te) (b o len cap : Nat) (k : IntKind) (n : Int) (h0 : 0 ≤ n) (h1 : n < len) :
    (Instr.indexAt t (.slice (some ⟨b, o, none⟩) len cap) (.int k n)).run P w = .ok (.pointer (some ⟨b, o + n.toNat * te.size, none⟩)) w := by
  simp [Instr.indexAt, run_underlying hu, asIntOf, h0, h1, hT.sizeOf, Addr.add_mid]

theorem shared_index {E : Env} (_hE : EnvOK P E) {t e : Nat} {te : TI} (hu : P.underlying t = some (.slice e)) (hT : TyOK P e te) {vx : Value} {ar : Arr V} (hx : RepL S w vx (.sl false ar)) (hz : ar.esz = te.size)
    {k : IntKind} {n : Int} (h0 : 0 ≤ n) {u : V} (hu' : ar.toL[n.toNat]? = some u) :
    ∃ v, (Instr.indexAt t vx (.int k n)).run P w = .ok v w ∧ RepL S w v (.pv u.cells 0) := by
  have hlt := (List.getElem?_eq_some_iff.1 hu').1
  rw [Arr.length_toL] at hlt
  cases hx with
  | slE base cap a h => omega
  | sl b o len cap a x hl hc hS hz' hxx hr =>
    refine ⟨_, run_indexAt_ok hu hT b o len cap k n h0 (by omega), ?_⟩
    have := RepL.pv (S := S) (w := w) b (o + n.toNat * te.size) 0 u.cells (x n.toNat) hS (fun j c hj => by
      have := hxx n.toNat u j c hu' hj
      rw [← hz]
      rw [Nat.add_assoc]
      exact this) (fun j c hj => hr n.toNat u j c hu' hj)
    exact this

theorem indexAddrV_sound {E : Env} (hE : EnvOK P E) (hF : FR F S own T s a w) {t : Nat} {vx vi : Value} {x i : V} {Kc : V → Option R} {r : R} (hx : RTV S w T s.M vx x) (hi : RTV S w T s.M vi i) (h : indexAddrV E s.M t x i Kc = some r) :
    ∃ v c, (Instr.indexAt t vx vi).run P w = .ok v w ∧ RTV S w T s.M v c ∧ Kc c = some r := by
  unfold indexAddrV at h
  split at h
  · rename_i k n te hte
    obtain ⟨e, hu, _, hT⟩ := elemTI_ok hE hte
    have ei := rtv_int hi
    subst ei
    split at h
    · rename_i h0
      split at h
      · rename_i o ar
        have hx := rtv_sl hx
        cases o with
        | true => cases hx
        | false =>
          split at h
          · rename_i hz
            obtain ⟨u, hu', h⟩ := get_eq h
            have h := S1.chk_eq h
            obtain ⟨v, hv, hr⟩ := shared_index hE hu hT hx hz h0 hu' (k := k)
            exact ⟨v, _, hv, .of_rep hr, h⟩
          · exact absurd h (by simp)
      · rename_i id
        obtain ⟨hlt, rfl, hone⟩ := (show RT S w T s.M vx (.rs id) from hx)
        split at h
        · rename_i ar hpl
          split at h
          · rename_i hc
            obtain ⟨⟨hp, ⟨e', xs, ⟨hl, hown⟩, hr⟩, hz⟩, hob⟩ := hF.place hpl (by simp)
            rcases hown with ⟨_, hn⟩ | ⟨g, cap, cur, hv, _⟩
            · omega
            · refine ⟨_, .er id n.toNat 0, by rw [hv]; exact run_indexAt_ok hu hT g 0 ar.len cap k n h0 (by omega), show RT S w T s.M _ (.er id n.toNat 0) from ⟨hlt, fun o2 a2 h2 => ?_⟩, h⟩
              rw [hpl] at h2; cases h2
              exact ⟨by omega, g, ar.len, cap, hv, by rw [hc.2]; simp⟩
          · exact absurd h (by simp)
        · rename_i ar hpl
          split at h
          · rename_i hz
            obtain ⟨u, hu', h⟩ := get_eq h
            have h := S1.chk_eq h
            obtain ⟨v, hv, hr⟩ := shared_index hE hu hT (show RepL S w (T id) (.sl false ar) from hF.place hpl (by simp)) hz h0 hu' (k := k)
            exact ⟨v, _, hv, .of_rep hr, h⟩
          · exact absurd h (by simp)
        · exact absurd h (by simp)
      · exact absurd h (by simp)
    · exact absurd h (by simp)
  · exact absurd h (by simp)

theorem indexV_sound {E : Env} (hE : EnvOK P E) {t : Nat} {vx vi : Value} {x i : V} {Kc : V → Option R} {r : R} (hx : RTV S w T M vx x) (hi : RTV S w T M vi i) (h : indexV E t x i Kc = some r) :
    ∃ v c, (Instr.index t vx vi).run P w = .ok v w ∧ RTV S w T M v c ∧ Kc c = some r := by
  unfold indexV at h
  split at h
  · exact absurd h (by simp)
  · rename_i ti hti
    split at h
    · rename_i sb k n hd
      have hdesc := (hE.ty t ti hti).desc
      rw [hd] at hdesc
      have e1 := rtv_str hx
      have e2 := rtv_int hi
      subst e1 e2
      split at h
      · rename_i h0
        split at h
        · rename_i b hb
          have hlt : n.toNat < sb.size := by
            have := (List.getElem?_eq_some_iff.1 hb).1
            rwa [Array.length_toList] at this
          refine ⟨_, _, ?_, .of_rep (.int .u8 b.toNat), h⟩
          have hg : sb[n.toNat]? = some b := by
            rw [ByteArray.getElem?_lt' sb _ hlt]
            rw [List.getElem?_eq_getElem (by rw [Array.length_toList]; exact hlt)] at hb
            rw [← hb]; rfl
          have hdesc : P.underlying t = some .string := hdesc
          simp [Instr.index, asIntOf, run_underlying hdesc, h0, hg]
        · exact absurd h (by simp)
      · exact absurd h (by simp)
    · exact absurd h (by simp)

theorem extract_sound {i : Nat} {vx : Value} {x : V} {Kc : V → Option R} {r : R}
    (h : (match x with | .tup l => (match l[i]? with | some v => Kc v | none => none) | _ => none) = some r) (hx : RTV S w T M vx x) :
    ∃ v c, (Instr.extract vx i).run P w = .ok v w ∧ RTV S w T M v c ∧ Kc c = some r := by
  split at h
  · rename_i l
    obtain ⟨cs, rfl, hlen, hcs⟩ := (show RTV S w T M vx (.tup l) from hx)
    split at h
    · rename_i c hc
      have hlt : i < cs.length := by rw [hlen]; exact (List.getElem?_eq_some_iff.1 hc).1
      have hrt := hcs i cs[i] c (List.getElem?_eq_getElem hlt) hc
      refine ⟨cs[i], c, by simp [Instr.extract, hlt], ?_, h⟩
      cases c with
      | tup l => exact absurd rfl ((show RepL S w _ (.tup l) from hrt).not_agg.2.1 l)
      | _ => exact hrt
    · exact absurd h (by simp)
  · exact absurd h (by simp)

theorem lenV_sound {t ty : Nat} (hF : FR F S own T s a w) {vx : Value} {x : V} {Kc : V → Option R} {r : R} (hx : RTV S w T s.M vx x) (h : lenV s.M x Kc = some r)
    (ht : (∃ sb, x = .str sb) ∧ P.underlying t = some .string ∨ (∀ sb, x ≠ .str sb) ∧ ∃ e, P.underlying t = some (.slice e)) :
    ∃ v c, (Builtin.len_ #[t] ty #[vx]).run P w = .ok v w ∧ RTV S w T s.M v c ∧ Kc c = some r := by
  have slc : ∀ base n cap e, P.underlying t = some (.slice e) → (Builtin.len_ #[t] ty #[.slice base n cap]).run P w = .ok (goInt n) w := by
    intro base n cap e he
    simp [Builtin.len_, run_underlying he]
  unfold lenV at h
  split at h
  · rename_i sb
    have e1 := rtv_str hx
    subst e1
    rcases ht with ⟨_, hu⟩ | ⟨hn, _⟩
    · exact ⟨_, _, by simp [Builtin.len_, run_underlying hu]; rfl, .of_rep (.int .i64 sb.size), h⟩
    · exact absurd rfl (hn sb)
  · rename_i o ar
    rcases ht with ⟨⟨_, h0⟩, _⟩ | ⟨_, e, hu⟩
    · cases h0
    · have hx := rtv_sl hx
      cases hx with
      | slE base cap _ h0 => exact ⟨_, _, slc _ _ _ e hu, by rw [h0]; exact .of_rep (.int .i64 _), h⟩
      | sl b o len cap _ x hl => exact ⟨_, _, slc _ _ _ e hu, by rw [hl]; exact .of_rep (.int .i64 _), h⟩
  · rename_i id
    obtain ⟨hlt, rfl, hone⟩ := (show RT S w T s.M vx (.rs id) from hx)
    rcases ht with ⟨⟨_, h0⟩, _⟩ | ⟨_, e, hu⟩
    · cases h0
    · split at h
      · rename_i o ar hpl
        cases o with
        | true =>
          obtain ⟨⟨hp, ⟨e', xs, ⟨hl, hown⟩, hr⟩, hz⟩, hob⟩ := hF.place hpl (by simp)
          rcases hown with ⟨hv, hn⟩ | ⟨g, cap, cur, hv, _⟩
          · exact ⟨_, _, by rw [hv]; exact slc _ _ _ e hu, by rw [hn]; exact .of_rep (.int .i64 _), h⟩
          · exact ⟨_, _, by rw [hv]; exact slc _ _ _ e hu, .of_rep (.int .i64 _), h⟩
        | false =>
          have hP : RepL S w (T id) (.sl false ar) := hF.place hpl (by simp)
          generalize T id = v at hP
          cases hP with
          | slE base cap _ h0 => exact ⟨_, _, slc _ _ _ e hu, by rw [h0]; exact .of_rep (.int .i64 _), h⟩
          | sl b o len cap _ x hl => exact ⟨_, _, slc _ _ _ e hu, by rw [hl]; exact .of_rep (.int .i64 _), h⟩
      · exact absurd h (by simp)
  · exact absurd h (by simp)

theorem minInt_sound {ty : Nat} {ts : Array TypeId} {vx vy : Value} {x y : V} {Kc : V → Option R} {r : R} (hx : RTV S w T M vx x) (hy : RTV S w T M vy y) (h : minInt x y Kc = some r) :
    ∃ v c, (Builtin.min_ ts ty #[vx, vy]).run P w = .ok v w ∧ RTV S w T M v c ∧ Kc c = some r := by
  unfold minInt at h
  split at h
  · have e1 := rtv_int hx
    have e2 := rtv_int hy
    subst e1 e2
    split at h
    · exact ⟨_, _, by simp [Builtin.min_, Builtin.min2], .of_rep (.int ..), h⟩
    · exact absurd h (by simp)
  · exact absurd h (by simp)
theorem maxInt_sound {ty : Nat} {ts : Array TypeId} {vx vy : Value} {x y : V} {Kc : V → Option R} {r : R} (hx : RTV S w T M vx x) (hy : RTV S w T M vy y) (h : maxInt x y Kc = some r) :
    ∃ v c, (Builtin.max_ ts ty #[vx, vy]).run P w = .ok v w ∧ RTV S w T M v c ∧ Kc c = some r := by
  unfold maxInt at h
  split at h
  · have e1 := rtv_int hx
    have e2 := rtv_int hy
    subst e1 e2
    split at h
    · exact ⟨_, _, by simp [Builtin.max_, Builtin.max2], .of_rep (.int ..), h⟩
    · exact absurd h (by simp)
  · exact absurd h (by simp)
end
end Go.Proofs.Ytfkkigbbejhfbaa.Idl
/- Cuts, conversions, structs built; and frames in which memory is made. -/
namespace Go.Proofs.Ytfkkigbbejhfbaa.Idl
open Go
variable {P : Program}
section
variable {F : Fx} {S S' : Nat → Prop} {own : Nat → Option Nat} {T : Nat → Value} {s : St} {a : Act} {w w' : World} {M : List V} {R : Type}

theorem optInt_eq {x : Option V} {d : Int} {K : Int → Option R} {r : R} (h : optInt x d K = some r) : ∃ n, K n = some r ∧ (x = none ∧ n = d ∨ ∃ k, x = some (.int k n)) := by
  unfold optInt at h
  split at h
  · exact ⟨d, h, .inl ⟨rfl, rfl⟩⟩
  · rename_i k n
    exact ⟨n, h, .inr ⟨k, rfl⟩⟩
  · exact absurd h (by simp)

/-- operands that may be missing -/
def OptR (S : Nat → Prop) (w : World) (T : Nat → Value) (M : List V) (x : Option Value) (c : Option V) : Prop :=
  match x, c with
  | none, none => True
  | some v, some c => RTV S w T M v c
  | _, _ => False
theorem OptR.none_iff {x : Option Value} {c : Option V} (h : OptR S w T M x c) (hc : c = none) : x = none := by
  subst hc
  cases x with
  | none => rfl
  | some v => exact h.elim
theorem OptR.int {x : Option Value} {c : Option V} (h : OptR S w T M x c) {k : IntKind} {n : Int} (hc : c = some (.int k n)) : x = some (.int k n) := by
  subst hc
  cases x with
  | none => exact h.elim
  | some v => exact congrArg some (rtv_int (show RTV S w T M v (.int k n) from h))

theorem bounds_ok (b : Bool) (len cap : Nat) (lo hi mx : Option Value) (l h m : Nat) (hl : lo = none ∧ l = 0 ∨ ∃ k, lo = some (.int k (l : Int))) (hh : hi = none ∧ mx = none ∧ h = len ∨ ∃ k, hi = some (.int k (h : Int)))
    (hm : mx = none ∧ m = cap ∨ ∃ k, mx = some (.int k (m : Int))) (h1 : l ≤ h) (h2 : h ≤ m) (h3 : m ≤ cap) :
    (Instr.sliceBounds b len cap lo hi mx).run P w = .ok (l, h, m) w := by
  have sb : ∀ (k : IntKind) (i y : Nat) (code : BoundsCode), i ≤ y → (Instr.sliceBound (.int k (i : Int)) y code).run P w = .ok i w := by
    intro k i y code hi
    rw [run_sliceBound w k (i : Int) y code (by omega) (by omega)]
    simp
  rcases hm with ⟨rfl, rfl⟩ | ⟨km, rfl⟩ <;> rcases hh with ⟨rfl, hmx, rfl⟩ | ⟨kh, rfl⟩ <;> rcases hl with ⟨rfl, rfl⟩ | ⟨kl, rfl⟩ <;> (try (cases hmx; done)) <;>
    simp [Instr.sliceBounds, sb, h1, h2, h3]

theorem cut_toL (ar : Arr V) (lo hi : Nat) : (ar.cut lo hi).toL = (ar.toL.take hi).drop lo := by cases ar <;> simp [Arr.cut, Arr.toL, List.map_take, List.map_drop]
theorem cut_len (ar : Arr V) (lo hi : Nat) : (ar.cut lo hi).len = min hi ar.len - lo := by cases ar <;> simp [Arr.cut, Arr.len]
theorem cut_esz (ar : Arr V) (lo hi : Nat) : (ar.cut lo hi).esz = ar.esz := by cases ar <;> rfl

theorem cutV_sound {t e : Nat} {te : TI} (hu : P.underlying t = some (.slice e)) (hT : TyOK P e te) {vx : Value} {ar : Arr V} {lo hi mx : Option V} {lo' hi' mx' : Option Value} {Kc : V → Option R} {r : R}
    (hx : RepL S w vx (.sl false ar)) (hlo : OptR S w T M lo' lo) (hhi : OptR S w T M hi' hi) (hmx : OptR S w T M mx' mx) (h : cutV te ar lo hi mx Kc = some r) :
    ∃ v c, (Instr.sliceAt t vx lo' hi' mx').run P w = .ok v w ∧ RTV S w T M v c ∧ Kc c = some r := by
  unfold cutV at h
  split at h
  · exact absurd h (by simp)
  · rename_i hnm
    obtain ⟨hn, h, eh⟩ := optInt_eq h
    obtain ⟨ln, h, el⟩ := optInt_eq h
    obtain ⟨mn, h, em⟩ := optInt_eq h
    split at h
    · rename_i hb
      obtain ⟨h0, h1, h2, rfl, hz⟩ := hb
      obtain ⟨l, rfl⟩ := Int.eq_ofNat_of_zero_le h0
      obtain ⟨hh, rfl⟩ := Int.eq_ofNat_of_zero_le (by omega : 0 ≤ mn)
      simp only [Int.toNat_natCast] at h
      have h1' : l ≤ hh := by omega
      have h2' : hh ≤ ar.len := by omega
      -- the value's length and capacity
      have key : ∀ (base : Option Addr) (cap : Nat), vx = .slice base ar.len cap → ar.len ≤ cap → ∃ m, hh ≤ m ∧ m ≤ cap ∧
          (Instr.sliceAt t vx lo' hi' mx').run P w = .ok (.slice (if m = l then base else base.map (·.add (l * te.size))) (hh - l) (m - l)) w := by
        intro base cap hv hcap
        obtain ⟨m, hm1, hm2, hm3⟩ : ∃ m, hh ≤ m ∧ m ≤ cap ∧ (mx' = none ∧ m = cap ∨ ∃ k, mx' = some (.int k (m : Int))) := by
          rcases em with ⟨e1, e2⟩ | ⟨k, e1⟩
          · exact ⟨cap, by omega, Nat.le_refl _, .inl ⟨hmx.none_iff e1, rfl⟩⟩
          · exact ⟨hh, Nat.le_refl _, by omega, .inr ⟨k, hmx.int e1⟩⟩
        have hb := bounds_ok (P := P) (w := w) true ar.len cap lo' hi' mx' l hh m
          (by rcases el with ⟨e1, e2⟩ | ⟨k, e1⟩
              · exact .inl ⟨hlo.none_iff e1, by omega⟩
              · exact .inr ⟨k, hlo.int e1⟩)
          (by rcases eh with ⟨e1, e2⟩ | ⟨k, e1⟩
              · have hmn : mx = none := by
                  cases mx with
                  | none => rfl
                  | some m => rw [e1] at hnm; exact absurd rfl hnm
                exact .inl ⟨hhi.none_iff e1, hmx.none_iff hmn, by omega⟩
              · exact .inr ⟨k, hhi.int e1⟩)
          hm3 h1' hm1 hm2
        refine ⟨m, hm1, hm2, ?_⟩
        subst hv
        simp only [Instr.sliceAt, Sem.run_bind, run_underlying hu, Result.andThen_ok, Instr.slice, hb, hT.sizeOf, Sem.run_pure]
      have lenc : (ar.cut l hh).len = hh - l := by rw [cut_len]; omega
      cases hx with
      | slE base cap _ h00 =>
        obtain ⟨m, hm1, hm2, hr⟩ := key base cap (by rw [h00]) (by omega)
        refine ⟨_, _, hr, ?_, h⟩
        have e0 : hh - l = 0 := by omega
        rw [e0]
        exact .of_rep (.slE _ _ _ (by omega))
      | sl b o len cap _ x hl hc hS hzz hxx hrr =>
        obtain ⟨m, hm1, hm2, hr⟩ := key (some ⟨b, o, none⟩) cap (by rw [hl]) (by omega)
        refine ⟨_, _, hr, ?_, h⟩
        by_cases e0 : hh - l = 0
        · rw [e0]
          exact .of_rep (.slE _ _ _ (by omega))
        · rw [if_neg (by omega)]
          simp only [Option.map_some, Addr.add_mid]
          have gt : ∀ (i : Nat) v, (ar.cut l hh).toL[i]? = some v → ar.toL[l + i]? = some v := by
            intro i v hv
            rw [cut_toL, List.getElem?_drop, List.getElem?_take] at hv
            split at hv
            · exact hv
            · exact absurd hv (by simp)
          refine .of_rep (.sl b (o + l * te.size) _ _ _ (fun i j => x (l + i) j) lenc (by omega) hS (fun i v hv => ?_) (fun i v j c hv hj => ?_) (fun i v j c hv hj => hrr (l + i) v j c (gt i v hv) hj))
          · rw [cut_esz]; exact hzz (l + i) v (gt i v hv)
          · have := hxx (l + i) v j c (gt i v hv) hj
            rw [cut_esz, ← this, ← hz, Nat.add_mul]
            congr 2
            omega
    · exact absurd h (by simp)

theorem sliceV_sound {E : Env} (hE : EnvOK P E) (hF : FR F S own T s a w) {t : Nat} {vx : Value} {x : V} {lo hi mx : Option V} {lo' hi' mx' : Option Value} {Kc : V → Option R} {r : R}
    (hx : RTV S w T s.M vx x) (hlo : OptR S w T s.M lo' lo) (hhi : OptR S w T s.M hi' hi) (hmx : OptR S w T s.M mx' mx) (h : sliceV E s.M t x lo hi mx Kc = some r)
    (hfr : ∀ id, x = .rs id → ∀ a, pl s.M id ≠ .sl true a) :
    ∃ v c, (Instr.sliceAt t vx lo' hi' mx').run P w = .ok v w ∧ RTV S w T s.M v c ∧ Kc c = some r := by
  unfold sliceV at h
  split at h
  · exact absurd h (by simp)
  · rename_i ti hti
    have hdesc := (hE.ty t ti hti).desc
    split at h
    · rename_i sb hd
      rw [hd] at hdesc
      have hdesc : P.underlying t = some .string := hdesc
      have e1 := rtv_str hx
      subst e1
      split at h
      · obtain ⟨hn, h, eh⟩ := optInt_eq h
        obtain ⟨ln, h, el⟩ := optInt_eq h
        split at h
        · rename_i hb
          obtain ⟨h0, h1, h2⟩ := hb
          obtain ⟨l, rfl⟩ := Int.eq_ofNat_of_zero_le h0
          obtain ⟨hh, rfl⟩ := Int.eq_ofNat_of_zero_le (by omega : 0 ≤ hn)
          simp only [Int.toNat_natCast] at h
          have emx : mx' = none := hmx.none_iff rfl
          subst emx
          have hb := bounds_ok (P := P) (w := w) false sb.size sb.size lo' hi' none l hh sb.size
            (by rcases el with ⟨e1, e2⟩ | ⟨k, e1⟩
                · exact .inl ⟨hlo.none_iff e1, by omega⟩
                · exact .inr ⟨k, hlo.int e1⟩)
            (by rcases eh with ⟨e1, e2⟩ | ⟨k, e1⟩
                · exact .inl ⟨hhi.none_iff e1, rfl, by omega⟩
                · exact .inr ⟨k, hhi.int e1⟩)
            (.inl ⟨rfl, rfl⟩) (by omega) (by omega) (Nat.le_refl _)
          exact ⟨_, _, by simp only [Instr.sliceAt, Sem.run_bind, run_underlying hdesc, Result.andThen_ok, Instr.slice, hb, Option.isSome_none, Bool.false_eq_true, if_false, Sem.run_pure], .of_rep (.str _), h⟩
        · exact absurd h (by simp)
      · exact absurd h (by simp)
    · rename_i e o ar hd
      rw [hd] at hdesc
      split at h
      · rename_i te hte
        have hx := rtv_sl hx
        cases o with
        | true => cases hx
        | false => exact cutV_sound hdesc (hE.ty e te hte) hx hlo hhi hmx h
      · exact absurd h (by simp)
    · rename_i e id hd
      rw [hd] at hdesc
      obtain ⟨hlt, rfl, hone⟩ := (show RT S w T s.M vx (.rs id) from hx)
      split at h
      · rename_i o ar hpl
        split at h
        · rename_i te hte
          cases o with
          | true => exact absurd hpl (hfr id rfl ar)
          | false => exact cutV_sound hdesc (hE.ty e te hte) (show RepL S w (T id) (.sl false ar) from hF.place hpl (by simp)) hlo hhi hmx h
        · exact absurd h (by simp)
      · exact absurd h (by simp)
    · exact absurd h (by simp)

/-! ### memory is made -/
theorem PR.later {own' : Nat → Option Nat} {T' : Nat → Value} {M' : List V} (L : Later S S' w w' T T' M M') {id : Nat} {c : V} (hid : id < M.length) (h : PR S w T M own id c)
    (hown : ∀ b, own b = some id → own' b = some id ∧ w'.heap[b]? = w.heap[b]?) : PR S' w' T' M' own' id c := by
  have eT := L.hT id hid
  cases c with
  | sl o ar =>
    cases o with
    | true =>
      obtain ⟨h1, h2⟩ := h
      refine ⟨?_, fun b hb => ?_⟩
      · rw [eT]; exact h1.mono L.hS L.hw (fun b hb => (hown b (h2 b hb)).2)
      · rw [eT] at hb; exact (hown b (h2 b hb)).1
    | false =>
      show RepL S' w' (T' id) _
      rw [eT]; exact RepL.mono L.hS L.hw h
  | pt l =>
    obtain ⟨b, cs, e, h1, h2, h3, h4, h5⟩ := h
    exact ⟨b, cs, e, by rw [eT]; exact h1, by rw [(hown b h5).2]; exact h2, h3, fun j x c hx hc => ⟨(h4 j x c hx hc).1, (h4 j x c hx hc).2.later L⟩, (hown b h5).1⟩
  | pv l off =>
    obtain ⟨h0, b, h1, h2⟩ := h
    exact ⟨h0, b, by rw [eT]; exact h1, by rw [eT]; exact RepL.mono L.hS L.hw h2⟩
  | dead => trivial
  | bool b => exact h.elim
  | int k n => exact h.elim
  | str s => exact h.elim
  | nils => exact h.elim
  | nilp => exact h.elim
  | nilf => exact h.elim
  | agg l => exact h.elim
  | tup l => exact h.elim
  | fn f cap => exact h.elim
  | rs id => exact h.elim
  | pr id off => exact h.elim
  | er id i off => exact h.elim

/-- the world has grown; some new blocks are shared -/
theorem FR.grow (h : FR F S own T s a w) (hw : ∀ b, b < w.heap.size → w'.heap[b]? = w.heap[b]?) (hsz : w.heap.size ≤ w'.heap.size) (hout : w'.os = w.os ∧ w'.tape = w.tape ∧ w'.output = w.output)
    (hS : ∀ b, S b → S' b) (hS' : ∀ b, S' b → S b ∨ w.heap.size ≤ b ∧ b < w'.heap.size) : FR F S' own T s a w' := by
  have L : Later S S' w w' T T s.M s.M := ⟨hS, fun b hb => hw b (h.slt b hb), fun _ _ => rfl, Nat.le_refl _, fun _ o a _ h => ⟨o, a, h, rfl, rfl⟩⟩
  refine ⟨h.len, fun t v c hv hc => (h.tmps t v c hv hc).later L, fun id c hc => ?_, h.defers, fun b id hb => ?_, fun b hb => ?_, fun b hb => ?_,
    Nat.le_trans h.size hsz, ?_, fun b hb => hS b (h.s0 b hb), fun b hb => ?_, h.s0k, h.roots⟩
  · exact (h.places id c hc).later L (List.getElem?_eq_some_iff.1 hc).1 (fun b hb => ⟨hb, hw b (h.own b id hb).1⟩)
  · obtain ⟨h1, h2, h3, h4⟩ := h.own b id hb
    refine ⟨by omega, fun hs => ?_, h3, h4⟩
    rcases hS' b hs with h' | h'
    · exact h2 h'
    · omega
  · rcases hS' b hb with h' | h'
    · have := h.slt b h'; omega
    · exact h'.2
  · have hk := h.keep b hb
    have := h.size
    exact ⟨hk.1, by rw [hw b (by omega)]; exact hk.2⟩
  · obtain ⟨h1, h2, h3⟩ := h.outside
    exact ⟨hout.1.trans h1, hout.2.1.trans h2, hout.2.2.trans h3⟩
  · rcases hS' b hb with h' | h'
    · exact h.sk b h'
    · refine .inr (fun hk => ?_)
      have := (h.keep b hk).1
      have := h.size
      omega

theorem convV_sound {E : Env} (hE : EnvOK P E) (hF : FR F S own T s a w) {src dst : Nat} {vx : Value} {x : V} {Kc : V → Option R} {r : R} (hx : RTV S w T s.M vx x) (h : convV E s.M src dst x Kc = some r) :
    ∃ v c w' S', (convert src dst vx).run P w = .ok v w' ∧ FR F S' own T s a w' ∧ RTV S' w' T s.M v c ∧ Kc c = some r := by
  unfold convV at h
  split at h
  · rename_i ta tb hta htb
    have hA := hE.ty src ta hta
    have hB := hE.ty dst tb htb
    obtain ⟨da, hua⟩ : ∃ d, P.underlying src = some d := by
      have := hA.desc
      unfold descOK at this
      split at this
      all_goals first | exact ⟨_, this⟩ | exact ⟨_, this.choose_spec.1⟩
    have dB := hB.desc
    have dA := hA.desc
    have bytes : ∀ e te l, ta.d = .sl e → E.ty e = some te → te.d = .int .u8 → RepL S w vx (.sl false (.ints .u8 l)) → P.underlying dst = some .string → (convert src dst vx).run P w = .ok (.string (bytesStr l)) w := by
      intro e te l h1 h2 h3 hr hd
      rw [h1] at dA
      have hs : P.underlying src = some (.slice e) := dA
      have he := (hE.ty e te h2).desc
      rw [h3] at he
      have he : P.underlying e = some (.int .u8) := he
      cases hr with
      | slE base cap _ h0 =>
        have hl : l = [] := List.eq_nil_of_length_eq_zero h0
        subst hl
        cases base with
        | none =>
          rw [run_convert_bytes_nil (P := P) w src e hs he 0 cap dst hd]
          rfl
        | some ad =>
          obtain ⟨b, o, sp⟩ := ad
          have := run_bytesToString (P := P) w ⟨b, o, sp⟩ 0 cap [] (by simp [loadCells, loadCellsFrom])
          rw [run_convert_bytes_string w src dst e _ 0 cap hs he hd, this]
          rfl
      | sl b o len cap _ x hl hc hS hz hxx hrr =>
        have := run_convert_bytes_arg (P := P) w src e hs he b o len cap l hl (fun i hi => by
          have hil : i < l.length := by rw [show l.length = len from hl]; exact hi
          have hg : (Arr.ints IntKind.u8 l).toL[i]? = some (.int .u8 l[i]) := by simp [Arr.toL, hil]
          have h1 := hxx i _ 0 (.int .u8 l[i]) hg rfl
          have h2 := hrr i _ 0 (.int .u8 l[i]) hg rfl
          simp only [Arr.esz, Nat.mul_one, Nat.add_zero] at h1
          rw [h1, h2.ground_int]
          simp [hil])
        exact this dst hd
    split at h
    · rename_i k k' n hd
      have e1 := rtv_int hx
      subst e1
      rw [hd] at dB
      have dB : P.underlying dst = some (.int k) := dB
      exact ⟨_, _, w, S, by simp [convert, run_underlying hua, run_underlying dB, Conv.intToInt], hF, .of_rep (.int ..), h⟩
    · rename_i sb hd
      have e1 := rtv_str hx
      subst e1
      rw [hd] at dB
      have dB : P.underlying dst = some .string := dB
      exact ⟨_, _, w, S, by simp [convert, run_underlying hua, run_underlying dB], hF, .of_rep (.str ..), h⟩
    · rename_i o l hd
      rw [hd] at dB
      split at h
      · rename_i e he
        split at h
        · rename_i te hte
          split at h
          · rename_i hu8
            have hx := rtv_sl hx
            cases o with
            | true => cases hx
            | false => exact ⟨_, _, w, S, bytes e te l he hte hu8 hx dB, hF, .of_rep (.str ..), h⟩
          · exact absurd h (by simp)
        · exact absurd h (by simp)
      · exact absurd h (by simp)
    · rename_i id hd
      rw [hd] at dB
      obtain ⟨hlt, rfl, hone⟩ := (show RT S w T s.M vx (.rs id) from hx)
      split at h
      · rename_i o l hpl
        split at h
        · rename_i e he
          split at h
          · rename_i te hte
            split at h
            · rename_i hu8
              cases o with
              | false => exact ⟨_, _, w, S, bytes e te l he hte hu8 (hF.place hpl (by simp)) dB, hF, .of_rep (.str ..), h⟩
              | true =>
                obtain ⟨hO, hob⟩ := hF.place hpl (by simp)
                -- for the while of this reading all blocks may count as shared
                have hr : RepL (fun b => S b ∨ (T id).ownBlock = some b) w (T id) (.sl false (.ints .u8 l)) :=
                  (hO.mono (S' := fun b => S b ∨ (T id).ownBlock = some b) (w' := w) (fun b hb => .inl hb) (fun _ _ => rfl) (fun _ _ => rfl)).share (fun b hb => .inr hb)
                have := hr
                generalize hTv : T id = v at this
                refine ⟨_, _, w, S, ?_, hF, .of_rep (.str ..), h⟩
                rw [he] at dA
                have hs : P.underlying src = some (.slice e) := dA
                have he' := (hE.ty e te hte).desc
                rw [hu8] at he'
                have he' : P.underlying e = some (.int .u8) := he'
                have dB : P.underlying dst = some .string := dB
                cases this with
                | slE base cap _ h0 =>
                  have hl : l = [] := List.eq_nil_of_length_eq_zero h0
                  subst hl
                  cases base with
                  | none =>
                    rw [run_convert_bytes_nil (P := P) w src e hs he' 0 cap dst dB]
                    rfl
                  | some ad =>
                    obtain ⟨b, o, sp⟩ := ad
                    have := run_bytesToString (P := P) w ⟨b, o, sp⟩ 0 cap [] (by simp [loadCells, loadCellsFrom])
                    rw [run_convert_bytes_string w src dst e _ 0 cap hs he' dB, this]
                    rfl
                | sl b o len cap _ x hl hc hS hz hxx hrr =>
                  have := run_convert_bytes_arg (P := P) w src e hs he' b o len cap l hl (fun i hi => by
                    have hil : i < l.length := by rw [show l.length = len from hl]; exact hi
                    have hg : (Arr.ints IntKind.u8 l).toL[i]? = some (.int .u8 l[i]) := by simp [Arr.toL, hil]
                    have h1 := hxx i _ 0 (.int .u8 l[i]) hg rfl
                    have h2 := hrr i _ 0 (.int .u8 l[i]) hg rfl
                    simp only [Arr.esz, Nat.mul_one, Nat.add_zero] at h1
                    rw [h1, h2.ground_int]
                    simp [hil])
                  exact this dst dB
            · exact absurd h (by simp)
          · exact absurd h (by simp)
        · exact absurd h (by simp)
      · exact absurd h (by simp)
    · rename_i e sb hd
      rw [hd] at dB
      have dB : P.underlying dst = some (.slice e) := dB
      have e1 := rtv_str hx
      subst e1
      split at h
      · rename_i te hda hte
        split at h
        · rename_i hu8
          rw [hda] at dA
          have dA : P.underlying src = some .string := dA
          have he := (hE.ty e te hte).desc
          rw [hu8] at he
          have he : P.underlying e = some (.int .u8) := he
          have hrun := run_bytes_of_string (P := P) w src dst e sb dA dB he
          refine ⟨_, _, _, fun b => S b ∨ b = w.heap.size, hrun, hF.grow (fun b hb => ?_) ?_ ⟨rfl, rfl, rfl⟩ (fun b hb => .inl hb) (fun b hb => ?_), ?_, h⟩
          · exact Go.Proofs.Ytfkkigbbejhfbaa.Idl.heap_alloc_o w.drew _ b hb
          · simp
          · rcases hb with hb | rfl
            · exact .inl hb
            · exact .inr ⟨Nat.le_refl _, by simp⟩
          · have hlen : (strBytes sb).length = sb.size := by rw [strBytes, List.length_map]; exact Array.length_toList
            refine .of_rep (.sl w.heap.size 0 sb.size _ _ (fun i j => .int .u8 ((strBytes sb).getD i 0)) hlen (grownCap_ge w sb.size 0 e) (.inr rfl) (fun i v hv => ?_) (fun i v j c hv hj => ?_) (fun i v j c hv hj => ?_))
            · exact Arr.esz_cells _ (by simp) i v hv
            · simp only [Arr.toL, List.getElem?_map, Option.map_eq_some_iff] at hv
              obtain ⟨n, hn, rfl⟩ := hv
              have hil := (List.getElem?_eq_some_iff.1 hn).1
              have : j = 0 := by
                have := (List.getElem?_eq_some_iff.1 hj).1
                simp [V.cells] at this
                omega
              subst this
              simp only [Arr.esz, Nat.mul_one, Nat.add_zero, Nat.zero_add]
              have hil2 : i < sb.data.size := by rw [hlen] at hil; exact hil
              have hnew : (w.drew.alloc (.cells (bytesRow sb (grownCap w sb.size 0 e)) e ((bytesRow sb (grownCap w sb.size 0 e)).size, (bytesRow sb (grownCap w sb.size 0 e)).size + 1))).heap[w.heap.size]? = some (.cells (bytesRow sb (grownCap w sb.size 0 e)) e ((bytesRow sb (grownCap w sb.size 0 e)).size, (bytesRow sb (grownCap w sb.size 0 e)).size + 1)) := heap_alloc_new w.drew _
              simp only [World.cell?, hnew, Option.isSome_none, Bool.false_eq_true, if_false]
              rw [bytesRow_at sb _ i hil2]
              simp [strBytes, Array.getElem?_eq_getElem hil2]
            · simp only [Arr.toL, List.getElem?_map, Option.map_eq_some_iff] at hv
              obtain ⟨n, hn, rfl⟩ := hv
              have : j = 0 := by
                have := (List.getElem?_eq_some_iff.1 hj).1
                simp [V.cells] at this
                omega
              subst this
              simp only [V.cells, List.getElem?_cons_zero, Option.some.injEq] at hj
              subst hj
              rw [List.getD_eq_getElem?_getD, hn]
              exact .int ..
        · exact absurd h (by simp)
      · exact absurd h (by simp)
    · exact absurd h (by simp)
  · exact absurd h (by simp)
end
end Go.Proofs.Ytfkkigbbejhfbaa.Idl
/- Structs built, functions made; the simple operations but calls, all together. -/
namespace Go.Proofs.Ytfkkigbbejhfbaa.Idl
open Go
variable {P : Program}
section
variable {F : Fx} {S S' : Nat → Prop} {own : Nat → Option Nat} {T : Nat → Value} {s : St} {a : Act} {w w' : World} {M : List V} {R : Type}

def CellsRel (S : Nat → Prop) (w : World) (T : Nat → Value) (M : List V) (cells : List Value) (cs : List V) : Prop :=
  cells.length = cs.length ∧ ∀ (j : Nat) x c, cells[j]? = some x → cs[j]? = some c → c ≠ .dead ∧ RT S w T M x c

theorem CellsRel.splice {cells xs : List Value} {cs l : List V} (h : CellsRel S w T M cells cs) (hx : CellsRel S w T M xs l) (o : Nat) (ho : o + l.length ≤ cs.length) :
    CellsRel S w T M (cells.take o ++ xs ++ cells.drop (o + xs.length)) (cs.take o ++ l ++ cs.drop (o + l.length)) := by
  obtain ⟨h1, h2⟩ := h
  obtain ⟨h3, h4⟩ := hx
  refine ⟨by simp [h1, h3], fun j x c hx hc => ?_⟩
  rw [List.append_assoc] at hx hc
  by_cases hj : j < o
  · rw [List.getElem?_append_left (by simp; omega), List.getElem?_take, if_pos hj] at hx hc
    exact h2 j x c hx hc
  · rw [List.getElem?_append_right (by simp; omega)] at hx hc
    have e1 : j - (cells.take o).length = j - o := by simp; omega
    have e2 : j - (cs.take o).length = j - o := by simp; omega
    rw [e1] at hx
    rw [e2] at hc
    by_cases hj2 : j - o < l.length
    · rw [List.getElem?_append_left (by omega)] at hx hc
      exact h4 _ x c hx hc
    · rw [List.getElem?_append_right (by omega), List.getElem?_drop] at hx hc
      rw [h3] at hx
      exact h2 _ x c hx hc

theorem foldl_cells : ∀ (xs : List Value) (o k : Nat) (cells : Array Value), o + k + xs.length ≤ cells.size →
    ((xs.zipIdx k).foldl (fun cs (p : Value × Nat) => cs.setIfInBounds (o + p.2) p.1) cells).toList = cells.toList.take (o + k) ++ xs ++ cells.toList.drop (o + k + xs.length)
  | [], o, k, cells, _ => by simp
  | x :: xs, o, k, cells, h => by
    simp only [List.zipIdx_cons, List.foldl_cons]
    rw [foldl_cells xs o (k + 1) _ (by simp at h ⊢; omega)]
    simp only [Array.toList_setIfInBounds, List.length_cons] at h ⊢
    have hlt : o + k < cells.toList.length := by simp; omega
    rw [show o + (k + 1) = o + k + 1 from rfl, List.take_add_one, List.getElem?_set_self hlt, List.take_set_of_le (Nat.le_refl _), List.drop_set_of_lt (by omega)]
    simp
    congr 1
    omega

theorem fill_one (pf : Nat → Option (Nat × Nat)) (cells : Array Value) (i o sz : Nat) (v : Value) (rest : List (Nat × Value)) (hp : pf i = some (o, sz)) (hv : v.cells.size = sz) (ho : o + sz ≤ cells.size) :
    Instr.fill pf cells ((i, v) :: rest) = Instr.fill pf (cells.toList.take o ++ v.cells.toList ++ cells.toList.drop (o + v.cells.toList.length)).toArray rest := by
  have e : (v.cells.zipIdx.foldl (fun cs (p : Value × Nat) => cs.setIfInBounds (o + p.2) p.1) cells) = (cells.toList.take o ++ v.cells.toList ++ cells.toList.drop (o + v.cells.toList.length)).toArray := by
    apply Array.ext'
    have := foldl_cells v.cells.toList o 0 cells (by simp; omega)
    simp only [Nat.add_zero] at this
    rw [← Array.foldl_toList, Array.toList_zipIdx, this]
  simp only [Instr.fill, hp]
  rw [if_neg (by simp; omega)]
  rw [← e]

theorem rt_one {v : Value} {c : V} (h : RT S w T M v c) (hd : c ≠ .dead) (he : ∀ id i off, c ≠ .er id i off) : v.oneCell' = true := by
  cases c with
  | dead => exact absurd rfl hd
  | er id i off => exact absurd rfl (he id i off)
  | rs id => exact h.2.2
  | pr id off => obtain ⟨_, b, _, rfl⟩ := h; rfl
  | bool b => exact RepL.one h
  | int k n => exact RepL.one h
  | str s => exact RepL.one h
  | nils => exact RepL.one h
  | nilp => exact RepL.one h
  | nilf => exact RepL.one h
  | sl o a => exact RepL.one h
  | agg l => exact RepL.one h
  | tup l => exact RepL.one h
  | pv l off => exact RepL.one h
  | pt l => exact RepL.one h
  | fn f cap => exact RepL.one h
theorem one_cells {v : Value} (h : v.oneCell' = true) : v.cells = #[v] := by cases v <;> first | rfl | (simp [Value.oneCell'] at h)

theorem partsV_sound {E : Env} (hE : EnvOK P E) {fs : List (Nat × Nat)} (pf : Nat → Option (Nat × Nat)) (hpf : ∀ (i o ft : Nat) fi, fs[i]? = some (o, ft) → E.ty ft = some fi → pf i = some (o, fi.size)) {Kc : List V → Option R} {r : R} :
    ∀ (ps : List (Nat × V)) (vs : List (Nat × Value)) (cs : List V) (cells : List Value), vs.length = ps.length → (∀ (j : Nat) p q, vs[j]? = some p → ps[j]? = some q → p.1 = q.1 ∧ RTV S w T M p.2 q.2) →
      CellsRel S w T M cells cs → partsV E fs ps cs Kc = some r → ∃ cells' cs', Instr.fill pf cells.toArray vs = some (cells' : List Value).toArray ∧ CellsRel S w T M cells' cs' ∧ Kc cs' = some r
  | [], [], cs, cells, _, _, hrel, h => ⟨cells, cs, rfl, hrel, h⟩
  | [], _ :: _, _, _, hl, _, _, _ => by simp at hl
  | _ :: _, [], _, _, hl, _, _, _ => by simp at hl
  | (i, c) :: ps, (i', v) :: vs, cs, cells, hl, hps, hrel, h => by
    obtain ⟨e1, hrt⟩ := hps 0 _ _ rfl rfl
    simp only at e1 hrt
    subst e1
    have hps' : ∀ (j : Nat) p q, vs[j]? = some p → ps[j]? = some q → p.1 = q.1 ∧ RTV S w T M p.2 q.2 := fun j p q hp hq => hps (j + 1) p q hp hq
    have hl' : vs.length = ps.length := by simpa using hl
    have go : ∀ (o sz : Nat) (l : List V) (xs : List Value), pf i' = some (o, sz) → v.cells = xs.toArray → xs.length = sz → l.length = sz → o + sz ≤ cs.length → CellsRel S w T M xs l →
        partsV E fs ps (cs.take o ++ l ++ cs.drop (o + sz)) Kc = some r → ∃ cells' cs', Instr.fill pf cells.toArray ((i', v) :: vs) = some (cells' : List Value).toArray ∧ CellsRel S w T M cells' cs' ∧ Kc cs' = some r := by
      intro o sz l xs hp hv hx hls ho hrx h'
      obtain ⟨cells', cs', h1, h2, h3⟩ := partsV_sound hE pf hpf ps vs _ (cells.take o ++ xs ++ cells.drop (o + xs.length)) hl' hps' (hrel.splice hrx o (by omega)) (by rw [hls]; exact h')
      refine ⟨cells', cs', ?_, h2, h3⟩
      rw [fill_one pf cells.toArray i' o sz v vs hp (by rw [hv]; simpa using hx) (by have := hrel.1; simp; omega), ← h1]
      simp [hv]
    simp only [partsV] at h
    split at h
    · exact absurd h (by simp)
    · rename_i o ft hfo
      split at h
      · exact absurd h (by simp)
      · rename_i fi hfi
        have hp := hpf i' o ft fi hfo hfi
        have single : (∀ id i off, c ≠ .er id i off) → c ≠ .dead → RT S w T M v c → fi.size = 1 → o < cs.length → partsV E fs ps (cs.set o c) Kc = some r → ∃ cells' cs', Instr.fill pf cells.toArray ((i', v) :: vs) = some (cells' : List Value).toArray ∧ CellsRel S w T M cells' cs' ∧ Kc cs' = some r := by
          intro h1 h2 h3 h4 h5 h6
          rw [h4] at hp
          refine go o 1 [c] [v] hp (by rw [one_cells (rt_one h3 h2 h1)]) rfl rfl (by omega) ⟨rfl, fun j x c' hx hc => ?_⟩ ?_
          · cases j with
            | zero => simp at hx hc; subst hx hc; exact ⟨h2, h3⟩
            | succ j => simp at hx
          · rw [List.set_eq_take_append_cons_drop, if_pos h5] at h6
            simpa using h6
        split at h
        · split at h
          · rename_i te hte
            have ev := rtv_nils hrt
            subst ev
            obtain ⟨e, hu, hte', hT⟩ := elemTI_ok hE hte
            split at h
            · rename_i h45
              obtain ⟨h4, h5⟩ := h45
              rw [h4] at hp
              refine go o 1 [.sl false te.ek.nil] [.slice none 0 0] hp rfl rfl rfl (by omega) ⟨rfl, fun j x c' hx hc => ?_⟩ ?_
              · cases j with
                | zero =>
                  simp at hx hc; subst hx hc
                  exact ⟨by simp, .of_rep (.slE none 0 _ (by cases te.ek <;> rfl))⟩
                | succ j => simp at hx
              · rw [List.set_eq_take_append_cons_drop, if_pos h5] at h
                simpa using h
            · exact absurd h (by simp)
          · exact absurd h (by simp)
        · exact absurd h (by simp)
        · exact absurd h (by simp)
        · exact absurd h (by simp)
        · rename_i l
          obtain ⟨xs, rfl, hlen, hxs⟩ := (show RTA S w T M v (.agg l) from hrt)
          split at h
          · rename_i hle
            exact go o fi.size l xs hp rfl (by omega) (by omega) (by omega) ⟨hlen, hxs⟩ h
          · exact absurd h (by simp)
        · rename_i n1 n2 n3 n4 n5
          split at h
          · rename_i hle
            have hrt' : RT S w T M v c := by
              cases c with
              | agg l => exact absurd rfl (n5 l)
              | tup l => exact absurd rfl (n3 l)
              | _ => exact hrt
            exact single (fun id i off => n2 id i off) (fun hd => n4 hd) hrt' hle.1 hle.2 h
          · exact absurd h (by simp)

theorem zeroL_rt {x : Value} {c : V} (h : ZeroL x c) : c ≠ .dead ∧ RT S w T M x c := by
  cases c with
  | int k n => obtain ⟨rfl, rfl⟩ := h; exact ⟨by simp, .of_rep (.int ..)⟩
  | bool b => obtain ⟨rfl, rfl⟩ := h; exact ⟨by simp, .of_rep (.bool ..)⟩
  | str s => cases (show x = .string s from h); exact ⟨by simp, .of_rep (.str ..)⟩
  | nilp => cases (show x = .pointer none from h); exact ⟨by simp, .of_rep .nilp⟩
  | nilf => cases (show x = .nilFunc from h); exact ⟨by simp, .of_rep .nilf⟩
  | sl o a => obtain ⟨rfl, h0, _, rfl⟩ := h; exact ⟨by simp, .of_rep (.slE none 0 a h0)⟩
  | dead => exact h.elim
  | nils => exact h.elim
  | agg l => exact h.elim
  | tup l => exact h.elim
  | pv l off => exact h.elim
  | pt l => exact h.elim
  | fn f cap => exact h.elim
  | rs id => exact h.elim
  | pr id off => exact h.elim
  | er id i off => exact h.elim

theorem mapM_info {P : Program} : ∀ (fields : List Field), (∀ f, f ∈ fields → ∃ k, P.info? f.type = some k) →
    ∃ places : List (Nat × Nat), fields.mapM (fun f => (P.info? f.type).map fun i => (f.offset, i.size)) = some places ∧ places.length = fields.length ∧
      ∀ (i : Nat) f k, fields[i]? = some f → P.info? f.type = some k → places[i]? = some (f.offset, k.size)
  | [], _ => ⟨[], rfl, rfl, fun i f k h _ => by simp at h⟩
  | f :: fs, h => by
    obtain ⟨k, hk⟩ := h f (by simp)
    obtain ⟨ps, h1, h2, h3⟩ := mapM_info fs (fun g hg => h g (by simp [hg]))
    refine ⟨(f.offset, k.size) :: ps, by simp [List.mapM_cons, hk, h1], by simp [h2], fun i g k' hg hk' => ?_⟩
    cases i with
    | zero => simp at hg; subst hg; rw [hk] at hk'; cases hk'; rfl
    | succ i => exact h3 i g k' hg hk'

theorem buildV_sound {E : Env} (hE : EnvOK P E) (hF : FR F S own T s a w) {t : Nat} {parts : Array (Nat × Operand)} {ti : TI} {fs : List (Nat × Nat)} (hti : E.ty t = some ti) (hd : ti.d = .struct fs) {Kc : V → Option R} {r : R}
    (h : partsV E fs (parts.toList.map fun p => (p.1, s.eval p.2)) ti.zero (fun cs => Kc (.agg cs)) = some r) :
    ∃ v c, (Instr.build t (parts.map fun (i, x) => (i, a.eval x))).run P w = .ok v w ∧ RTV S w T s.M v c ∧ Kc c = some r := by
  have hT := hE.ty t ti hti
  have hdesc := hT.desc
  rw [hd] at hdesc
  obtain ⟨fields, hu, hfsz, hfs⟩ := hdesc
  obtain ⟨i0, z, hi, hsz, _, hz, hzc, hzl, hzr⟩ := hT.info
  have hinf : ∀ f, f ∈ fields.toList → ∃ k, P.info? f.type = some k := by
    intro f hf
    obtain ⟨i, hi, hfi⟩ := List.getElem_of_mem hf
    have hil : i < fs.length := by rw [← hfsz]; simpa using hi
    obtain ⟨f', h1, h2, h3, k, h4, _⟩ := hfs i fs[i].1 fs[i].2 (by simp [List.getElem?_eq_getElem hil])
    have : f' = f := by
      have h5 : fields[i]? = some f := by rw [← Array.getElem?_toList, List.getElem?_eq_getElem hi, hfi]
      rw [h1] at h5; exact Option.some.inj h5
    subst this
    exact ⟨k, by rw [h3]; exact h4⟩
  obtain ⟨places, hpl, hpll, hpli⟩ := mapM_info fields.toList hinf
  have hpf : ∀ (i o ft : Nat) fi, fs[i]? = some (o, ft) → E.ty ft = some fi → (places.toArray[i]?) = some (o, fi.size) := by
    intro i o ft fi hfo hfi
    obtain ⟨f, h1, h2, h3, k, h4, _⟩ := hfs i o ft hfo
    obtain ⟨i1, z1, hi1, hs1, _⟩ := (hE.ty ft fi hfi).info
    have := hpli i f k (by rw [Array.getElem?_toList]; exact h1) (by rw [h3]; exact h4)
    rw [hi1] at h4
    cases h4
    rw [h2] at this
    rw [List.getElem?_toArray, this, hs1]
  obtain ⟨cells', cs', h1, h2, h3⟩ := partsV_sound (S := S) (w := w) (T := T) (M := s.M) hE (fun i => places.toArray[i]?) hpf (parts.toList.map fun p => (p.1, s.eval p.2)) (parts.toList.map fun p => (p.1, a.eval p.2)) ti.zero z.cells.toList
    (by simp) (fun j p q hp hq => by
      simp only [List.getElem?_map, Option.map_eq_some_iff] at hp hq
      obtain ⟨p0, h0, rfl⟩ := hp
      obtain ⟨q0, h0', rfl⟩ := hq
      rw [h0] at h0'; cases h0'
      exact ⟨rfl, hF.eval _⟩)
    ⟨by simp [hzc, hzl], fun j x c hx hc => zeroL_rt (hzr j x c (by rw [← Array.getElem?_toList]; exact hx) hc)⟩ h
  refine ⟨.agg cells'.toArray, .agg cs', run_build w t _ _ ?_, ⟨cells', rfl, h2.1, h2.2⟩, h3⟩
  unfold Program.built
  rw [hi, hu]
  simp only [hz, hpl]
  have e1 : (parts.map fun (x : Nat × Operand) => (x.1, a.eval x.2)).toList = parts.toList.map fun p => (p.1, a.eval p.2) := by simp
  rw [e1]
  simpa using h1

theorem plain1_rep {v : Value} {c : V} (h : RTV S w T M v c) (hp : c.plain1 = true) : RepL S w v c := by
  cases c with
  | rs id => simp [V.plain1] at hp
  | pr id off => simp [V.plain1] at hp
  | er id i off => simp [V.plain1] at hp
  | dead => simp [V.plain1] at hp
  | agg l => simp [V.plain1] at hp
  | tup l => simp [V.plain1] at hp
  | bool b => exact h
  | int k n => exact h
  | str s => exact h
  | nils => exact h
  | nilp => exact h
  | nilf => exact h
  | sl o a => exact h
  | pv l off => exact h
  | pt l => exact h
  | fn f cap => exact h

/-- the simple operations that run no other code -/
theorem iopS_value {E : Env} {cf : CallF} (hE : EnvOK P E) (hF : FR F S own T s a w) (o : Oper) {Kc : V → Option R} {r : R} (hs : isSimple E s.M s.eval o = true)
    (hnc : ∀ c, o.op = .call c → ∃ b, c.callee = .builtin b) (hnb : ∀ t n ps, o.op ≠ .buildSlice t n ps) (h : iopS E cf s.M s.eval o Kc = some r) :
    ∃ v c w' S', (execOp a.eval o).run P w = .ok (.value v) w' ∧ FR F S' own T s a w' ∧ RTV S' w' T s.M v c ∧ Kc c = some r := by
  obtain ⟨dst, op, ty, pos, after, guard⟩ := o
  have wrap : ∀ {x : Sem Value}, (∃ v c, x.run P w = .ok v w ∧ RTV S w T s.M v c ∧ Kc c = some r) →
      ∃ v c w' S', (do pure (Next.value (← x)) : Sem Next).run P w = .ok (.value v) w' ∧ FR F S' own T s a w' ∧ RTV S' w' T s.M v c ∧ Kc c = some r := by
    rintro x ⟨v, c, hr, hc⟩
    exact ⟨v, c, w, S, by rw [Sem.run_bind, hr]; rfl, hF, hc⟩
  cases op <;> simp only [iopS, reduceCtorEq] at h
  case move x => exact ⟨_, _, w, S, rfl, hF, hF.eval x, h⟩
  case assign x => exact ⟨_, _, w, S, rfl, hF, hF.eval x, h⟩
  case pick c x y =>
    obtain ⟨v, c', hr, hc⟩ := pickV_sound (hF.eval c) (hF.eval x) (hF.eval y) h
    exact ⟨v, c', w, S, hr, hF, hc⟩
  case build t parts =>
    split at h
    · rename_i ti hti
      split at h
      · rename_i fs hd
        exact wrap (buildV_sound hE hF hti hd h)
      · exact absurd h (by simp)
    · exact absurd h (by simp)
  case load t x => exact wrap (loadV_sound hE hF (hF.eval x) h)
  case nilCheck x =>
    have hx := hF.eval x
    split at h
    · rename_i l off hev
      rw [hev] at hx
      obtain ⟨b, o, hv, _⟩ := cellsAt_pv (T := T) (M := s.M) (rtv_pv hx)
      refine ⟨a.eval x, _, w, S, ?_, hF, by rw [hv] at hx ⊢; exact hx, h⟩
      simp only [execOp, hv]
      rfl
    · rename_i id off hev
      rw [hev] at hx
      obtain ⟨hlt, b, hT, hv⟩ := rtv_pr hx
      refine ⟨a.eval x, .pr id off, w, S, ?_, hF, hx, h⟩
      simp only [execOp, hv]
      rfl
    · exact absurd h (by simp)
  case binOp op t x y yt =>
    obtain ⟨v, c, hr, hc⟩ := binOpV_sound hE (ox := x) (oy := y) (hF.eval x) (hF.eval y) h
    exact wrap ⟨v, c, hr, hc⟩
  case unOp op t x => exact wrap (unOpV_sound (hF.eval x) h)
  case convert src dst x =>
    obtain ⟨v, c, w', S', hr, hF', hc⟩ := convV_sound hE hF (hF.eval x) h
    exact ⟨v, c, w', S', by simp only [execOp]; rw [Sem.run_bind, hr]; rfl, hF', hc⟩
  case makeFunc f first cap =>
    split at h
    · rename_i f
      simp only [isSimple, Bool.and_eq_true] at hs
      refine ⟨_, _, w, S, rfl, hF, ?_, h⟩
      have hf : first = #[] := by simpa using hs.1
      subst hf
      refine .of_rep ?_
      have := RepL.fn (S := S) (w := w) f (cap.toList.map s.eval) (cap.toList.map a.eval) (by simp) (fun j x c hx hc => by
        simp only [List.getElem?_map, Option.map_eq_some_iff] at hx hc
        obtain ⟨p, hp, rfl⟩ := hx
        obtain ⟨q, hq, rfl⟩ := hc
        rw [hp] at hq; cases hq
        have hm : p ∈ cap.toList := List.mem_of_getElem? hp
        have := (Array.all_eq_true_iff_forall_mem.1 hs.2) p (by simpa using hm)
        exact plain1_rep (hF.eval p) this)
      have e : (cap.toList.map a.eval).toArray = cap.map a.eval := by apply Array.ext'; simp
      rw [e] at this
      simpa using this
    · exact absurd h (by simp)
  case slice t x lo hi mx =>
    have opt : ∀ y : Option Operand, OptR S w T s.M (y.map a.eval) (y.map s.eval) := by
      intro y
      cases y with
      | none => trivial
      | some y => exact hF.eval y
    refine wrap (sliceV_sound hE hF (hF.eval x) (opt lo) (opt hi) (opt mx) h (fun id hid ar hpl => ?_))
    simp [isSimple, hid, hpl] at hs
  case fieldAddr t x f => exact wrap (fieldAddrV_sound hE (hF.eval x) h)
  case field t x f => exact wrap (fieldV_sound hE (hF.eval x) h)
  case indexAddr t x i => exact wrap (indexAddrV_sound hE hF (hF.eval x) (hF.eval i) h)
  case index t x i => exact wrap (indexV_sound hE (hF.eval x) (hF.eval i) h)
  case extract x i => exact wrap (extract_sound h (hF.eval x))
  case buildSlice t n ps => exact absurd rfl (hnb t n ps)
  case call c =>
    obtain ⟨b, hb⟩ := hnc c rfl
    obtain ⟨callee, args, argTypes⟩ := c
    simp only at hb
    subst hb
    simp only at h
    split at h
    · rename_i x hargs
      split at h
      · rename_i t0 hts
        split at h
        · rename_i hlen
          have hargs' : args = #[x] := by apply Array.ext'; simpa using hargs
          have hts' : argTypes = #[t0] := by apply Array.ext'; simpa using hts
          subst hargs' hts'
          have ht : (∃ sb, s.eval x = .str sb) ∧ P.underlying t0 = some .string ∨ (∀ sb, s.eval x ≠ .str sb) ∧ ∃ e, P.underlying t0 = some (.slice e) := by
            unfold lenOK at hlen
            split at hlen
            · rename_i ti hti
              have hdesc := (hE.ty t0 ti hti).desc
              split at hlen
              · rename_i sb hd hev
                rw [hd] at hdesc
                exact .inl ⟨⟨sb, hev⟩, hdesc⟩
              · rename_i e o ar hd hev
                rw [hd] at hdesc
                exact .inr ⟨by rw [hev]; simp, e, hdesc⟩
              · rename_i e id hd hev
                rw [hd] at hdesc
                exact .inr ⟨by rw [hev]; simp, e, hdesc⟩
              · exact absurd hlen (by simp)
            · exact absurd hlen (by simp)
          obtain ⟨v, c, hr, hc⟩ := lenV_sound (P := P) (t := t0) (ty := ty) hF (hF.eval x) h ht
          exact ⟨v, c, w, S, by simp [execOp, resolve, invoke, builtin, hr], hF, hc⟩
        · exact absurd h (by simp)
      · exact absurd h (by simp)
    · rename_i x y hargs
      have hargs' : args = #[x, y] := by apply Array.ext'; simpa using hargs
      subst hargs'
      obtain ⟨v, c, hr, hc⟩ := minInt_sound (ty := ty) (ts := argTypes) (P := P) (hF.eval x) (hF.eval y) h
      exact ⟨v, c, w, S, by simp [execOp, resolve, invoke, builtin, hr], hF, hc⟩
    · rename_i x y hargs
      have hargs' : args = #[x, y] := by apply Array.ext'; simpa using hargs
      subst hargs'
      obtain ⟨v, c, hr, hc⟩ := maxInt_sound (ty := ty) (ts := argTypes) (P := P) (hF.eval x) (hF.eval y) h
      exact ⟨v, c, w, S, by simp [execOp, resolve, invoke, builtin, hr], hF, hc⟩
    · exact absurd h (by simp)
end
end Go.Proofs.Ytfkkigbbejhfbaa.Idl
/- Places: made, given up, shared. -/
namespace Go.Proofs.Ytfkkigbbejhfbaa.Idl
open Go
variable {P : Program}
section
variable {F : Fx} {S S' : Nat → Prop} {own own' : Nat → Option Nat} {T T' : Nat → Value} {s : St} {a : Act} {w w' : World} {M M' : List V} {R : Type}

theorem pl_set (M : List V) (id j : Nat) (c : V) : pl (M.set id c) j = if j = id ∧ id < M.length then c else pl M j := by
  unfold pl
  simp only [List.getD_eq_getElem?_getD, List.getElem?_set]
  by_cases h : id = j
  · subst h
    by_cases hl : id < M.length <;> simp [hl]
  · rw [if_neg h, if_neg (fun h' => h h'.1.symm)]
theorem pl_push (M : List V) (j : Nat) (c : V) : pl (M ++ [c]) j = if j = M.length then c else pl M j := by
  unfold pl
  simp only [List.getD_eq_getElem?_getD]
  by_cases h : j = M.length
  · subst h; simp
  · rw [if_neg h]
    by_cases hl : j < M.length
    · rw [List.getElem?_append_left hl]
    · rw [List.getElem?_append_right (by omega), List.getElem?_eq_none (by simp; omega), List.getElem?_eq_none (by omega)]
theorem pl_lt {M : List V} {id : Nat} {c : V} (h : pl M id = c) (hc : c ≠ .dead) : id < M.length := (List.getElem?_eq_some_iff.1 (pl_eq h hc)).1

theorem FR.change (h : FR F S own T s a w) (L : Later S S' w w' T T' s.M M')
    (hP : ∀ (id : Nat) c, M'[id]? = some c → PR S' w' T' M' own' id c)
    (hown : ∀ b id, own' b = some id → b < w'.heap.size ∧ ¬ S' b ∧ ¬ F.K b ∧ id < M'.length)
    (hslt : ∀ b, S' b → b < w'.heap.size) (hkeep : ∀ b, F.K b → w'.heap[b]? = w.heap[b]?) (hsz : w.heap.size ≤ w'.heap.size)
    (hout : w'.os = w.os ∧ w'.tape = w.tape ∧ w'.output = w.output) (hsk : ∀ b, S' b → S b ∨ ¬ F.K b) :
    FR F S' own' T' { s with M := M' } a w' := by
  refine ⟨h.len, fun t v c hv hc => (h.tmps t v c hv hc).later L, hP, h.defers, hown, hslt, fun b hb => ⟨(h.keep b hb).1, (hkeep b hb).trans (h.keep b hb).2⟩,
    Nat.le_trans h.size hsz, ?_, fun b hb => L.hS b (h.s0 b hb), fun b hb => ?_, h.s0k, h.roots.1, fun i id v hi hv => ?_⟩
  · obtain ⟨h1, h2, h3⟩ := h.outside
    exact ⟨hout.1.trans h1, hout.2.1.trans h2, hout.2.2.trans h3⟩
  · rcases hsk b hb with h' | h'
    · exact h.sk b h'
    · exact .inr h'
  · obtain ⟨h1, h2⟩ := h.roots.2 i id v hi hv
    exact ⟨by rw [L.hT id h2]; exact h1, Nat.lt_of_lt_of_le h2 L.hM⟩

def without (own : Nat → Option Nat) (id : Nat) (b : Nat) : Option Nat := if own b = some id then none else own b
def plus (S : Nat → Prop) (p : Prop) (own : Nat → Option Nat) (id : Nat) (b : Nat) : Prop := S b ∨ p ∧ own b = some id

/-- a place gives up what it owns: it is shared from now on (p), or free -/
theorem FR.drop (h : FR F S own T s a w) (id : Nat) (p : Prop) (c' : V) (hid : id < s.M.length)
    (hsl : ∀ o ar, c' = .sl o ar → ∃ o' a', pl s.M id = .sl o' a' ∧ a'.esz = ar.esz ∧ a'.len = ar.len)
    (hP : PR (plus S p own id) w T (s.M.set id c') (without own id) id c') :
    FR F (plus S p own id) (without own id) T { s with M := s.M.set id c' } a w := by
  have L : Later S (plus S p own id) w w T T s.M (s.M.set id c') := ⟨fun b hb => .inl hb, fun _ _ => rfl, fun _ _ => rfl, by simp, fun j o ar hj hpl => by
    rw [pl_set] at hpl
    split at hpl
    · rename_i hji; rw [hji.1]; exact hsl o ar hpl
    · exact ⟨o, ar, hpl, rfl, rfl⟩⟩
  refine h.change L (fun j c hc => ?_) (fun b j hb => ?_) (fun b hb => ?_) (fun _ _ => rfl) (Nat.le_refl _) ⟨rfl, rfl, rfl⟩ (fun b hb => ?_)
  · by_cases hj : j = id
    · subst hj
      rw [List.getElem?_set_self hid] at hc
      cases hc; exact hP
    · rw [List.getElem?_set_ne (Ne.symm hj)] at hc
      refine (h.places j c hc).later L (List.getElem?_eq_some_iff.1 hc).1 (fun b hb => ⟨?_, rfl⟩)
      simp [without, hb, hj]
  · unfold without at hb
    split at hb
    · exact absurd hb (by simp)
    · rename_i hne
      obtain ⟨h1, h2, h3, h4⟩ := h.own b j hb
      refine ⟨h1, ?_, h3, by simpa using h4⟩
      rintro (h' | ⟨_, h'⟩)
      · exact h2 h'
      · exact hne h'
  · rcases hb with hb | ⟨_, hb⟩
    · exact h.slt b hb
    · exact (h.own b id hb).1
  · rcases hb with hb | ⟨_, hb⟩
    · exact .inl hb
    · exact .inr (h.own b id hb).2.2.1

def freeB (F : Fx) (S : Nat → Prop) (own : Nat → Option Nat) (w : World) (b : Nat) : Prop := b < w.heap.size → (¬ S b ∧ ¬ F.K b ∧ own b = none)

/-- a new place; the world may have grown, and free blocks may have been written -/
theorem FR.newPlace (h : FR F S own T s a w) (v : Value) (c : V) (nb : Option Nat) 
    (hsame : ∀ b, b < w.heap.size → (S b ∨ F.K b ∨ ∃ id, own b = some id) → w'.heap[b]? = w.heap[b]?) (hsz : w.heap.size ≤ w'.heap.size) (hout : w'.os = w.os ∧ w'.tape = w.tape ∧ w'.output = w.output)
    (hnb : ∀ b, nb = some b → b < w'.heap.size ∧ freeB F S own w b)
    (hP : ∀ own' T', (∀ b, nb = some b → own' b = some s.M.length) → T' s.M.length = v → (∀ j, j < s.M.length → T' j = T j) → Later S S w w' T T' s.M (s.M ++ [c]) → PR S w' T' (s.M ++ [c]) own' s.M.length c) :
    ∃ own' T', FR F S own' T' { s with M := s.M ++ [c] } a w' ∧ T' s.M.length = v ∧ (∀ j, j < s.M.length → T' j = T j) ∧ Later S S w w' T T' s.M (s.M ++ [c]) ∧
      (∀ b, own' b = if nb = some b then some s.M.length else own b) := by
  let own' : Nat → Option Nat := fun b => if nb = some b then some s.M.length else own b
  let T' : Nat → Value := fun j => if j = s.M.length then v else T j
  have hT1 : T' s.M.length = v := by simp [T']
  have hT2 : ∀ j, j < s.M.length → T' j = T j := fun j hj => by simp [T']; intro e; omega
  have L : Later S S w w' T T' s.M (s.M ++ [c]) := ⟨fun _ h => h, fun b hb => hsame b (h.slt b hb) (.inl hb), hT2, by simp, fun j o ar hj hpl => by
    rw [pl_push, if_neg (by omega)] at hpl
    exact ⟨o, ar, hpl, rfl, rfl⟩⟩
  refine ⟨own', T', ?_, hT1, hT2, L, fun b => rfl⟩
  refine h.change L (fun j c' hc => ?_) (fun b j hb => ?_) (fun b hb => Nat.lt_of_lt_of_le (h.slt b hb) hsz) (fun b hb => hsame b (by have := (h.keep b hb).1; have := h.size; omega) (.inr (.inl hb))) hsz hout (fun b hb => .inl hb)
  · by_cases hj : j < s.M.length
    · rw [List.getElem?_append_left hj] at hc
      refine (h.places j c' hc).later L hj (fun b hb => ?_)
      have hlt := (h.own b j hb).1
      refine ⟨?_, hsame b hlt (.inr (.inr ⟨j, hb⟩))⟩
      have : ¬ nb = some b := fun e => by
        have := ((hnb b e).2 hlt).2.2
        rw [hb] at this; cases this
      simp [own', this, hb]
    · have hj' : j = s.M.length := by
        have := (List.getElem?_eq_some_iff.1 hc).1
        simp at this; omega
      subst hj'
      simp at hc
      subst hc
      exact hP own' T' (fun b hb => by simp [own', hb]) hT1 hT2 L
  · simp only [own'] at hb
    split at hb
    · rename_i e
      cases hb
      obtain ⟨h1, h2⟩ := hnb b e
      refine ⟨h1, fun hs => ?_, fun hk => ?_, by simp⟩
      · have := h.slt b hs
        exact (h2 this).1 hs
      · have hb' : b < w.heap.size := by have := (h.keep b hk).1; have := h.size; omega
        exact (h2 hb').2.1 hk
    · obtain ⟨h1, h2, h3, h4⟩ := h.own b j hb
      exact ⟨by omega, h2, h3, by simp; omega⟩

theorem RT.plain_of {v : Value} {c : V} (h : RT S w T M v c) (h1 : c ≠ .dead) (h2 : ∀ id, c ≠ .rs id) (h3 : ∀ id off, c ≠ .pr id off) (h4 : ∀ id i off, c ≠ .er id i off) : RepL S w v c := by
  cases c with
  | rs id => exact absurd rfl (h2 id)
  | pr id off => exact absurd rfl (h3 id off)
  | er id i off => exact absurd rfl (h4 id i off)
  | dead => exact absurd rfl h1
  | bool b => exact h
  | int k n => exact h
  | str s => exact h
  | nils => exact h
  | nilp => exact h
  | nilf => exact h
  | sl o a => exact h
  | agg l => exact h
  | tup l => exact h
  | pv l off => exact h
  | pt l => exact h
  | fn f cap => exact h

/-- the way of a frame whose world stands: places are given up -/
structure Sunk (F : Fx) (S S' : Nat → Prop) (own own' : Nat → Option Nat) (w : World) (T : Nat → Value) (M M' : List V) : Prop where
  later : Later S S' w w T T M M'
  hown : ∀ b id, own' b = some id → own b = some id
  len : M'.length = M.length
  new : ∀ b, S' b → S b ∨ ∃ id, own b = some id
  keep : ∀ id x, pl M' id = .sl true x → pl M id = .sl true x
theorem Sunk.refl : Sunk F S S own own w T M M := ⟨.refl, fun _ _ h => h, rfl, fun _ h => .inl h, fun _ _ h => h⟩
theorem Later.trans {S1 S2 S3 : Nat → Prop} {w1 w2 w3 : World} {T1 T2 T3 : Nat → Value} {M1 M2 M3 : List V} (h : Later S1 S2 w1 w2 T1 T2 M1 M2) (k : Later S2 S3 w2 w3 T2 T3 M2 M3) : Later S1 S3 w1 w3 T1 T3 M1 M3 :=
  ⟨fun b hb => k.hS b (h.hS b hb), fun b hb => (k.hw b (h.hS b hb)).trans (h.hw b hb), fun id hid => (k.hT id (Nat.lt_of_lt_of_le hid h.hM)).trans (h.hT id hid), Nat.le_trans h.hM k.hM, fun id o a hid hp => by
    obtain ⟨o2, a2, h2, e2, f2⟩ := k.sl id o a (Nat.lt_of_lt_of_le hid h.hM) hp
    obtain ⟨o1, a1, h1, e1, f1⟩ := h.sl id o2 a2 hid h2
    exact ⟨o1, a1, h1, e1.trans e2, f1.trans f2⟩⟩
theorem Sunk.trans {S1 S2 S3 : Nat → Prop} {o1 o2 o3 : Nat → Option Nat} {M1 M2 M3 : List V} (h : Sunk F S1 S2 o1 o2 w T M1 M2) (k : Sunk F S2 S3 o2 o3 w T M2 M3) : Sunk F S1 S3 o1 o3 w T M1 M3 :=
  ⟨h.later.trans k.later, fun b id hb => h.hown b id (k.hown b id hb), k.len.trans h.len, fun b hb => by
    rcases k.new b hb with h' | ⟨id, h'⟩
    · exact h.new b h'
    · exact .inr ⟨id, h.hown b id h'⟩, fun id x hx => h.keep id x (k.keep id x hx)⟩

theorem without_own {b id id' : Nat} (h : without own id b = some id') : own b = some id' := by
  unfold without at h
  split at h
  · exact absurd h (by simp)
  · exact h

theorem FR.drop_sunk (_h : FR F S own T s a w) (id : Nat) (p : Prop) (c' : V) (hsl : ∀ o ar, c' = .sl o ar → ∃ o' a', pl s.M id = .sl o' a' ∧ a'.esz = ar.esz ∧ a'.len = ar.len) (hnt : ∀ x, c' ≠ .sl true x) :
    Sunk F S (plus S p own id) own (without own id) w T s.M (s.M.set id c') := by
  refine ⟨⟨fun b hb => .inl hb, fun _ _ => rfl, fun _ _ => rfl, by simp, fun j o ar hj hpl => ?_⟩, fun b j hb => without_own hb, by simp, fun b hb => ?_, fun j x hx => ?_⟩
  · rw [pl_set] at hpl
    split at hpl
    · rename_i hji; rw [hji.1]; exact hsl o ar hpl
    · exact ⟨o, ar, hpl, rfl, rfl⟩
  · rcases hb with hb | ⟨_, hb⟩
    · exact .inl hb
    · exact .inr ⟨id, hb⟩
  · rw [pl_set] at hx
    split at hx
    · exact absurd hx (hnt x)
    · exact hx

/-! ### what is shared -/
theorem share1_sound (h : FR F S own T s a w) {v : Value} {c : V} (hrt : RT S w T s.M v c) {Kc : List V → V → Option R} {r : R} (hk : share1 s.M c Kc = some r) :
    ∃ S' own' M' c', FR F S' own' T { s with M := M' } a w ∧ Sunk F S S' own own' w T s.M M' ∧ RepL S' w v c' ∧ Kc M' c' = some r := by
  unfold share1 at hk
  split at hk
  · rename_i id
    obtain ⟨hlt, rfl, _⟩ := hrt
    split at hk
    · rename_i o ar hpl
      have hP := h.place hpl (by simp)
      have hsl : ∀ o' ar', V.sl false ar = .sl o' ar' → ∃ o'' a', pl s.M id = .sl o'' a' ∧ a'.esz = ar'.esz ∧ a'.len = ar'.len := by
        intro o' ar' e
        cases e
        exact ⟨o, ar, hpl, rfl, rfl⟩
      have hrep : RepL (plus S True own id) w (T id) (.sl false ar) := by
        cases o with
        | false => exact RepL.mono (fun b hb => .inl hb) (fun _ _ => rfl) hP
        | true => exact (hP.1.mono (S' := plus S True own id) (fun b hb => .inl hb) (fun _ _ => rfl) (fun _ _ => rfl)).share (fun b hb => .inr ⟨trivial, hP.2 b hb⟩)
      exact ⟨_, _, _, _, h.drop id True (.sl false ar) hlt hsl hrep, h.drop_sunk id True _ hsl (by simp), hrep, hk⟩
    · exact absurd hk (by simp)
  all_goals first | exact absurd hk (by simp) | skip
  rename_i n1 n2 n3 n4 n5 n6 n7 n8 n9
  exact ⟨S, own, s.M, c, h, .refl, hrt.plain_of (fun e => n9 e) (fun id e => n1 id e) (fun id off e => n3 id off e) (fun id i off e => n4 id i off e), hk⟩

theorem shareL_sound : ∀ (l : List V) (M : List V) (S : Nat → Prop) (own : Nat → Option Nat) (xs : List Value) (Kc : List V → List V → Option R) (r : R), FR F S own T { s with M := M } a w → xs.length = l.length →
    (∀ (j : Nat) x c, xs[j]? = some x → l[j]? = some c → RT S w T M x c) → shareL M l Kc = some r →
    ∃ S' own' M' l', FR F S' own' T { s with M := M' } a w ∧ Sunk F S S' own own' w T M M' ∧ l'.length = l.length ∧ (∀ (j : Nat) x c, xs[j]? = some x → l'[j]? = some c → RepL S' w x c) ∧ Kc M' l' = some r
  | [], M, S, own, xs, Kc, r, h, _, _, hk => ⟨S, own, M, [], h, .refl, rfl, fun j x c _ hc => by simp at hc, hk⟩
  | c :: l, M, S, own, [], Kc, r, h, hl, _, hk => by simp at hl
  | c :: l, M, S, own, x :: xs, Kc, r, h, hl, hrt, hk => by
    simp only [shareL] at hk
    obtain ⟨S1, own1, M1, c1, h1, k1, r1, hk1⟩ := share1_sound (s := { s with M := M }) h (hrt 0 x c rfl rfl) hk
    obtain ⟨S2, own2, M2, l2, h2, k2, e2, r2, hk2⟩ := shareL_sound l M1 S1 own1 xs _ r h1 (by simpa using hl) (fun j x c hx hc => (hrt (j + 1) x c hx hc).later k1.later) hk1
    refine ⟨S2, own2, M2, c1 :: l2, h2, k1.trans k2, by simp [e2], fun j y d hy hd => ?_, hk2⟩
    cases j with
    | zero => simp at hy hd; subst hy hd; exact r1.mono k2.later.hS (fun _ _ => rfl)
    | succ j => exact r2 j y d hy hd

/-- shared values, structs among them -/
def RepA (S : Nat → Prop) (w : World) (v : Value) : V → Prop
  | .agg l => ∃ cs : List Value, v = .agg cs.toArray ∧ cs.length = l.length ∧ ∀ (j : Nat) x c, cs[j]? = some x → l[j]? = some c → RepL S w x c
  | c => RepL S w v c
theorem RepA.mono (hS : ∀ b, S b → S' b) (hw : ∀ b, S b → w'.heap[b]? = w.heap[b]?) {v : Value} {c : V} (h : RepA S w v c) : RepA S' w' v c := by
  cases c with
  | agg l =>
    obtain ⟨cs, h1, h2, h3⟩ := h
    exact ⟨cs, h1, h2, fun j x c hx hc => (h3 j x c hx hc).mono hS hw⟩
  | _ => exact RepL.mono hS hw h
theorem RepA.of_rep {v : Value} {c : V} (h : RepL S w v c) : RepA S w v c := by
  cases c with
  | agg l => exact absurd rfl (h.not_agg.1 l)
  | _ => exact h
theorem RTV.of_repA {v : Value} {c : V} (h : RepA S w v c) : RTV S w T M v c := by
  cases c with
  | agg l =>
    obtain ⟨cs, h1, h2, h3⟩ := h
    exact ⟨cs, h1, h2, fun j x c hx hc => ⟨(h3 j x c hx hc).not_agg.2.2, .of_rep (h3 j x c hx hc)⟩⟩
  | tup l => exact absurd rfl ((RepL.not_agg (show RepL S w v (.tup l) from h)).2.1 l)
  | bool b => exact .of_rep h
  | int k n => exact .of_rep h
  | str s => exact .of_rep h
  | nils => exact .of_rep h
  | nilp => exact .of_rep h
  | nilf => exact .of_rep h
  | sl o a => exact .of_rep h
  | pv l off => exact .of_rep h
  | pt l => exact .of_rep h
  | fn f cap => exact .of_rep h
  | dead => trivial
  | rs id => exact .of_rep h
  | pr id off => exact .of_rep h
  | er id i off => exact .of_rep h

theorem repL_pv_off {b off : Nat} {l : List V} (h : RepL S w (.pointer (some ⟨b, 0, none⟩)) (.pv l 0)) : RepL S w (.pointer (some ⟨b, off, none⟩)) (.pv l off) := by
  generalize hv : Value.pointer (some ⟨b, 0, none⟩) = v at h
  generalize hc : V.pv l 0 = c at h
  cases h with
  | pv b' o off' l' x hS hxx hr =>
    cases hc
    simp only [Value.pointer.injEq, Option.some.injEq, Addr.mk.injEq, Nat.add_zero] at hv
    obtain ⟨rfl, rfl, _⟩ := hv
    have := RepL.pv b 0 off l x hS hxx hr
    simpa using this
  | _ => cases hc

theorem share_sound (h : FR F S own T s a w) {v : Value} {c : V} (hrt : RTV S w T s.M v c) {Kc : List V → V → Option R} {r : R} (hk : share s.M c Kc = some r) :
    ∃ S' own' M' c', FR F S' own' T { s with M := M' } a w ∧ Sunk F S S' own own' w T s.M M' ∧ RepA S' w v c' ∧ Kc M' c' = some r := by
  unfold share at hk
  split at hk
  · rename_i id off
    obtain ⟨hlt, b, hT, rfl⟩ := rtv_pr hrt
    split at hk
    · rename_i l hpl
      obtain ⟨b', cs, e, h1, h2, h3, h4, h5⟩ := h.place hpl (by simp)
      rw [hT] at h1; cases h1
      have hd := h.drop id True .dead hlt (fun _ _ e => by cases e) trivial
      have kd := h.drop_sunk id True .dead (fun _ _ e => by cases e) (by simp)
      obtain ⟨S2, own2, M2, l2, f2, k2, e2, r2, hk2⟩ := shareL_sound l (s.M.set id .dead) (plus S True own id) (without own id) cs.toList _ r hd (by simpa using h3)
        (fun j x c hx hc => ((h4 j x c (by rw [← Array.getElem?_toList]; exact hx) hc).2).later kd.later) hk
      have hSb : S2 b := k2.later.hS b (.inr ⟨trivial, h5⟩)
      have hcell : ∀ (j : Nat) x, cs[j]? = some x → w.cell? ⟨b, 0 + j, none⟩ = some x := by
        intro j x hx
        simp only [World.cell?, h2, Nat.zero_add]
        simpa using hx
      have hpv : ∀ off, RepL S2 w (.pointer (some ⟨b, 0 + off, none⟩)) (.pv l2 off) := by
        intro off
        refine .pv b 0 off l2 (fun j => (cs[j]?).getD undef) hSb (fun j c hc => ?_) (fun j c hc => ?_)
        · have hj : j < cs.size := by have := (List.getElem?_eq_some_iff.1 hc).1; omega
          rw [Array.getElem?_eq_getElem hj]
          exact hcell j cs[j] (Array.getElem?_eq_getElem hj)
        · have hj : j < cs.size := by have := (List.getElem?_eq_some_iff.1 hc).1; omega
          rw [Array.getElem?_eq_getElem hj]
          exact r2 j cs[j] c (by rw [Array.getElem?_toList]; exact Array.getElem?_eq_getElem hj) hc
      have hlt2 : id < M2.length := by rw [k2.len]; simpa using hlt
      have f3 := f2.drop id False (.pv l2 0) hlt2 (fun _ _ e => by cases e) ⟨rfl, b, hT, by
        rw [hT]
        exact (hpv 0).mono (fun b hb => .inl hb) (fun _ _ => rfl)⟩
      refine ⟨_, _, _, _, f3, (kd.trans k2).trans (f2.drop_sunk id False (.pv l2 0) (fun _ _ e => by cases e) (by simp)), ?_, hk2⟩
      have := (hpv off).mono (S' := plus S2 False own2 id) (w' := w) (fun b hb => .inl hb) (fun _ _ => rfl)
      rw [Nat.zero_add] at this
      exact this
    · rename_i l off' hpl
      obtain ⟨h0, b', h1, h2⟩ := h.place hpl (by simp)
      rw [hT] at h1 h2; cases h1
      refine ⟨S, own, s.M, _, h, .refl, ?_, hk⟩
      exact repL_pv_off h2
    · exact absurd hk (by simp)
  · rename_i l
    obtain ⟨xs, rfl, hlen, hxs⟩ := (show RTA S w T s.M v (.agg l) from hrt)
    obtain ⟨S2, own2, M2, l2, f2, k2, e2, r2, hk2⟩ := shareL_sound l s.M S own xs _ r h hlen (fun j x c hx hc => (hxs j x c hx hc).2) hk
    exact ⟨S2, own2, M2, .agg l2, f2, k2, ⟨xs, rfl, by omega, r2⟩, hk2⟩
  · rename_i n1 n2
    have hrt' : RT S w T s.M v c := by
      cases c with
      | agg l => exact absurd rfl (n2 l)
      | tup l => simp [share1] at hk
      | _ => exact hrt
    obtain ⟨S', own', M', c', f, k, rr, hk'⟩ := share1_sound h hrt' hk
    exact ⟨S', own', M', c', f, k, .of_rep rr, hk'⟩
end
end Go.Proofs.Ytfkkigbbejhfbaa.Idl
/- append, whatever its source; stores. -/
namespace Go.Proofs.Ytfkkigbbejhfbaa.Idl
open Go
variable {P : Program}
section
variable {w w' : World}

theorem append_core (t u ty e : TypeId) (i : TypeInfo) (z : Value) (du : TypeDesc) (size : Nat) (ht : P.underlying t = some (.slice e)) (hu : P.underlying u = some du) (hdu : ∀ k, du ≠ .int k) (hi : P.info? e = some i) (hz : i.zero = some z)
    (hsize : i.size = size) (hby : i.bytes ≤ 4096) (hzs : z.cells.size = size) (hsz : 0 < size)
    (v : Value) (n : Nat) (xs : List Value) (hown : ∃ e', w.ownsRow 0 e' size v n xs)
    (x : Value) (m : Nat) (news : List Value) (hl : news.length = m * size) (hlen : (Builtin.lenOf x).run P w = .ok m w)
    (hfc : ∀ w1 : World, w1.heap = w.heap → (Builtin.firstCells size m x).run P w1 = .ok news.toArray w1) (h1 : ∀ u ∈ news, u.oneCell' = true) (hb : n + m ≤ bound) :
    ∃ v' w' e', (Builtin.append_ #[t, u] ty #[v, x]).run P w = .ok v' w' ∧ w'.ownsRow 0 e' size v' (n + m) (xs ++ news) ∧ w.grownBy w' v.ownBlock ∧
      (∀ g, v'.ownBlock = some g → w.heap.size ≤ g ∨ v.ownBlock = some g) := by
  subst hsize
  obtain ⟨e0, hown⟩ := hown
  have hbb : n + m ≤ 17179869184 := hb
  have hlenx : (xs ++ news).length = (n + m) * i.size := by rw [List.length_append, hown.1, hl, Nat.add_mul]
  have hprod : (n + m) * i.bytes ≤ 70368744177664 := by
    have := Nat.mul_le_mul hbb hby
    omega
  have grown : ∀ (old : Nat), old < n + m → ∀ (row : Option Nat),
      (w.drew.alloc (.cells (xs.toArray ++ news.toArray ++ Builtin.zeroCells z.cells (grownCap w (n + m) old e - (n + m))) e)).ownsRow 0 e i.size
        (.slice (some ⟨w.heap.size, 0, none⟩) (n + m) (grownCap w (n + m) old e)) (n + m) (xs ++ news) ∧
      w.grownBy (w.drew.alloc (.cells (xs.toArray ++ news.toArray ++ Builtin.zeroCells z.cells (grownCap w (n + m) old e - (n + m))) e)) row := by
    intro old ho row
    have hge := grownCap_ge w (n + m) old e
    have hcm : grownCap w (n + m) old e ≤ maxLen := grownCap_le_maxLen w (n + m) old e (by unfold maxLen; omega)
    refine ⟨⟨hlenx, .inr ⟨w.heap.size, _, _, rfl, Nat.zero_le _, heap_alloc_new w.drew _, hge, hcm, ?_, ?_⟩⟩, ⟨rfl, rfl, rfl, by simp, fun k hk _ => Go.Proofs.Ytfkkigbbejhfbaa.Idl.heap_alloc_o w.drew _ k hk⟩⟩
    · simp only [Array.size_append, List.size_toArray, size_zeroCells, hzs, hown.1, hl, ← Nat.add_mul]
      congr 1
      omega
    · simp only [Array.toList_append, List.append_assoc]
      rw [← List.append_assoc, ← hlenx]
      exact List.take_left
  have hdrew : (Builtin.firstCells i.size m x).run P w.drew = .ok news.toArray w.drew := hfc w.drew rfl
  have hfc0 := hfc w rfl
  rcases hown.2 with ⟨rfl, rfl⟩ | ⟨g, cap, cur, rfl, hbg, hg, hnc, hcm, hcs, htake⟩
  · have hx : xs = [] := List.eq_nil_of_length_eq_zero (by simpa using hown.1)
    subst hx
    by_cases hm : m = 0
    · subst hm
      have hn : news = [] := List.eq_nil_of_length_eq_zero (by simpa using hl)
      subst hn
      refine ⟨.slice none 0 0, w, e, ?_, World.ownsRow_nil w 0 e i.size, ⟨rfl, rfl, rfl, Nat.le_refl _, fun _ _ _ => rfl⟩, fun g hg => .inr hg⟩
      simp [Builtin.append_, run_underlying ht, run_underlying hu, sizeOf, typeInfo, hi, hlen, hfc0]
      try (cases du <;> first | (exact absurd rfl (hdu _)) | simp [hlen, hfc0])
    · have hn0 : ¬ m ≤ 0 := by omega
      have hgr := grown 0 (by omega) (Value.ownBlock (.slice none 0 0))
      simp only [Nat.zero_add, List.nil_append, Array.empty_append] at hgr ⊢
      refine ⟨_, _, e, ?_, hgr.1, hgr.2, fun g hg => .inl (by simp [Value.ownBlock] at hg; omega)⟩
      have h63' : ¬ (9223372036854775807 < (m : Int)) := by omega
      have h48' : ¬ (281474976710656 < Builtin.nextslicecap m 0 * i.bytes) := by rw [nextslicecap_zero (by omega)]; simp only [Nat.zero_add] at hprod; omega
      simp [Builtin.append_, run_underlying ht, run_underlying hu, sizeOf, typeInfo, zeroValue, hi, hz]
      cases du <;> first | (exact absurd rfl (hdu _)) | (simp [hlen, hm, h63', h48', Question.forced, run_firstCells_none, hdrew, newRow, grownCap])
  · by_cases hroom : n + m ≤ cap
    · have hfit : n * i.size + news.length ≤ cur.size := by rw [hl, hcs, ← Nat.add_mul]; exact Nat.mul_le_mul_right _ hroom
      have hst := run_storeCells_at P g (n * i.size) e0 news 0 cur w hg (by simpa using hfit) h1
      simp only [Nat.add_zero] at hst
      refine ⟨_, _, e0, ?_, ⟨hlenx, .inr ⟨g, cap, _, rfl, hbg, setRow_heap w g cur (cur.toList.take (n * i.size) ++ news ++ cur.toList.drop (n * i.size + news.length)).toArray e0 _ hg, hroom, hcm, ?_, ?_⟩⟩, ⟨rfl, rfl, rfl, by simp, fun k _ hk => setRow_other w g k _ (fun e => hk (by simp [Value.ownBlock, e]))⟩, fun g' hg' => .inr hg'⟩
      · simp [Builtin.append_, run_underlying ht, run_underlying hu, sizeOf, typeInfo, hi]
        cases du <;> first | (exact absurd rfl (hdu _)) | (simp [hlen, hroom, hfc0, Addr.add_lit, hst])
      · simp only [List.size_toArray, List.length_append, List.length_take, List.length_drop, Array.length_toList]
        omega
      · rw [htake, ← hlenx]
        exact List.take_left
    · have holds : ∀ j u, xs[j]? = some u → w.cell? ((⟨g, 0, none⟩ : Addr).add j) = some u := hown.cells (g := g) rfl
      have hfo := run_firstCells_some (P := P) w.drew i.size n ⟨g, 0, none⟩ n cap xs hown.1 (by simpa using holds)
      have hgr := grown cap (by omega) (Value.ownBlock (.slice (some ⟨g, 0, none⟩) n cap))
      refine ⟨_, _, e, ?_, hgr.1, hgr.2, fun g hg => .inl (by simp [Value.ownBlock] at hg; omega)⟩
      have h63' : ¬ (9223372036854775807 < ((n : Int) + (m : Int))) := by omega
      have hfits := growslice_fits (need := n + m) (old := cap) (bytes := i.bytes) (by omega) (by omega)
      have h48' : ¬ (281474976710656 < Builtin.nextslicecap (n + m) cap * i.bytes) := by omega
      simp [Builtin.append_, run_underlying ht, run_underlying hu, sizeOf, typeInfo, zeroValue, hi, hz]
      cases du <;> first | (exact absurd rfl (hdu _)) | (simp [hlen, hroom, h63', h48', Question.forced, hfo, hdrew, newRow, grownCap]; congr 2; apply Array.ext'; simp)

variable {F : Fx} {S : Nat → Prop} {own : Nat → Option Nat} {T : Nat → Value} {s : St} {a : Act} {M : List V} {R : Type}

/-- what is appended, as cells -/
structure Src (P : Program) (S : Nat → Prop) (w : World) (v : Value) (ar : Arr V) (news : List Value) : Prop where
  len : news.length = ar.len * ar.esz
  lenOf : (Builtin.lenOf v).run P w = .ok ar.len w
  cells : ∀ w1 : World, w1.heap = w.heap → (Builtin.firstCells ar.esz ar.len v).run P w1 = .ok news.toArray w1
  rep : ∀ (i : Nat) u (j : Nat) c, ar.toL[i]? = some u → u.cells[j]? = some c → ∃ x, news[i * ar.esz + j]? = some x ∧ RepL S w x c
  one : ∀ u ∈ news, u.oneCell' = true
  size : ∀ (i : Nat) u, ar.toL[i]? = some u → u.cells.length = ar.esz

theorem cell_heap {w w1 : World} (h : w1.heap = w.heap) (x : Addr) : w1.cell? x = w.cell? x := by simp [World.cell?, h]

theorem split_index {n m k : Nat} (h : k < n * m) : ∃ i j, i < n ∧ j < m ∧ k = i * m + j := by
  have hm : 0 < m := by
    rcases Nat.eq_zero_or_pos m with h0 | h0
    · subst h0; simp at h
    · exact h0
  refine ⟨k / m, k % m, ?_, Nat.mod_lt _ hm, ?_⟩
  · exact Nat.div_lt_of_lt_mul (by rw [Nat.mul_comm]; exact h)
  · have := Nat.div_add_mod k m
    rw [Nat.mul_comm] at this
    omega

theorem src_empty {v : Value} {ar : Arr V} (h0 : ar.len = 0) (hv : ∃ base cap, v = .slice base 0 cap) : Src P S w v ar [] := by
  obtain ⟨base, cap, rfl⟩ := hv
  have he : ar.toL = [] := List.eq_nil_of_length_eq_zero (by rw [Arr.length_toL]; exact h0)
  refine ⟨by simp [h0], by simp [Builtin.lenOf, h0], fun w1 _ => ?_, fun i u j c hi => by simp [he] at hi, by simp, fun i u hi => by simp [he] at hi⟩
  cases base <;> simp [Builtin.firstCells, h0, loadCells, loadCellsFrom]

theorem src_shared {v : Value} {ar : Arr V} (h : RepL S w v (.sl false ar)) : ∃ news, Src P S w v ar news := by
  cases h with
  | slE base cap _ h0 => exact ⟨[], src_empty h0 ⟨base, cap, rfl⟩⟩
  | sl b o len cap _ x hl hc hS hz hxx hr =>
    have at_ : ∀ k, k < ar.len * ar.esz → ∃ i u j c, ar.toL[i]? = some u ∧ u.cells[j]? = some c ∧ k = i * ar.esz + j := by
      intro k hk
      obtain ⟨i, j, hi, hj, e⟩ := split_index hk
      have hi' : i < ar.toL.length := by rw [Arr.length_toL]; exact hi
      have hs := hz i ar.toL[i] (List.getElem?_eq_getElem hi')
      exact ⟨i, ar.toL[i], j, (ar.toL[i]).cells[j]'(by omega), List.getElem?_eq_getElem hi', List.getElem?_eq_getElem (by omega), e⟩
    let news : List Value := (List.range (ar.len * ar.esz)).map fun k => (w.cell? ⟨b, o + k, none⟩).getD undef
    have hn : ∀ (i : Nat) u (j : Nat) c, ar.toL[i]? = some u → u.cells[j]? = some c → news[i * ar.esz + j]? = some (x i j) ∧ w.cell? ⟨b, o + (i * ar.esz + j), none⟩ = some (x i j) := by
      intro i u j c hi hj
      have h1 := hxx i u j c hi hj
      refine ⟨?_, h1⟩
      have hj' : j < ar.esz := by have := (List.getElem?_eq_some_iff.1 hj).1; rw [hz i u hi] at this; exact this
      have hi' : i < ar.len := by rw [← Arr.length_toL]; exact (List.getElem?_eq_some_iff.1 hi).1
      have hlt : i * ar.esz + j < ar.len * ar.esz := by
        have := Nat.mul_le_mul_right ar.esz (show i + 1 ≤ ar.len from hi')
        rw [Nat.add_mul] at this
        omega
      simp only [news, List.getElem?_map, List.getElem?_range hlt, Option.map_some, h1, Option.getD_some]
    refine ⟨news, by simp [news], by simp [Builtin.lenOf, hl], fun w1 hw1 => ?_, fun i u j c hi hj => ⟨x i j, (hn i u j c hi hj).1, hr i u j c hi hj⟩, fun u hu => ?_, hz⟩
    · refine run_firstCells_some (P := P) w1 ar.esz ar.len ⟨b, o, none⟩ len cap news (by simp [news]) (fun k v hv => ?_)
      have hk : k < ar.len * ar.esz := by have := (List.getElem?_eq_some_iff.1 hv).1; simpa [news] using this
      obtain ⟨i, u, j, c, hi, hj, rfl⟩ := at_ k hk
      have := hn i u j c hi hj
      rw [this.1] at hv; cases hv
      rw [Addr.add_mid, cell_heap hw1]
      exact this.2
    · obtain ⟨k, hk, rfl⟩ := List.getElem_of_mem hu
      have hk' : k < ar.len * ar.esz := by simpa [news] using hk
      obtain ⟨i, u', j, c, hi, hj, e⟩ := at_ k hk'
      have h1 := (hn i u' j c hi hj).1
      rw [← e, List.getElem?_eq_getElem hk] at h1
      rw [Option.some.inj h1]
      exact (hr i u' j c hi hj).one

theorem src_own {v : Value} {ar : Arr V} (h : OwnS S w v ar) : ∃ news, Src P S w v ar news ∧ ∃ e, w.ownsRow 0 e ar.esz v ar.len news := by
  obtain ⟨hp, ⟨e, xs, hown, hr⟩, hz⟩ := h
  have hone : ∀ u ∈ xs, u.oneCell' = true := by
    intro u hu
    obtain ⟨k, hk, rfl⟩ := List.getElem_of_mem hu
    obtain ⟨i, j, hi, hj, e⟩ := split_index (show k < ar.len * ar.esz by rw [← hown.1]; exact hk)
    have hi' : i < ar.toL.length := by rw [Arr.length_toL]; exact hi
    have hs := hz i ar.toL[i] (List.getElem?_eq_getElem hi')
    obtain ⟨x, h1, h2⟩ := hr i ar.toL[i] j ((ar.toL[i]).cells[j]'(by omega)) (List.getElem?_eq_getElem hi') (List.getElem?_eq_getElem (by omega))
    rw [← e, List.getElem?_eq_getElem hk] at h1
    cases h1
    exact h2.one
  refine ⟨xs, ?_, e, hown⟩
  rcases hown.2 with ⟨rfl, hn⟩ | ⟨g, cap, cur, rfl, _⟩
  · have hx : xs = [] := List.eq_nil_of_length_eq_zero (by rw [hown.1, hn]; simp)
    subst hx
    exact src_empty hn ⟨none, 0, rfl⟩
  · refine ⟨hown.1, by simp [Builtin.lenOf], fun w1 hw1 => ?_, hr, hone, hz⟩
    exact run_firstCells_some (P := P) w1 ar.esz ar.len ⟨g, 0, none⟩ ar.len cap xs hown.1 (fun j u hu => by rw [cell_heap hw1]; exact hown.cells (g := g) rfl j u hu)

theorem src_str {b : ByteArray} : Src P S w (.string b) (.ints .u8 (strBytes b)) ((strBytes b).map (Value.int .u8)) := by
  have hlen : (strBytes b).length = b.size := by rw [strBytes, List.length_map]; exact Array.length_toList
  refine ⟨by simp [Arr.len, Arr.esz], by simp [Builtin.lenOf, Arr.len, hlen], fun w1 _ => ?_, fun i u j c hi hj => ?_, fun u hu => ?_, fun i u hi => Arr.esz_cells _ (by simp) i u hi⟩
  · simp only [Builtin.firstCells, Sem.run_pure, Arr.len, hlen]
    congr 1
    apply Array.ext'
    simp only [Array.toList_map, strBytes, List.map_map]
    rw [show (b.extract 0 b.size) = b from by simp]
    rfl
  · simp only [Arr.toL, List.getElem?_map, Option.map_eq_some_iff] at hi
    obtain ⟨n, hn, rfl⟩ := hi
    have : j = 0 := by
      have := (List.getElem?_eq_some_iff.1 hj).1
      simp [V.cells] at this
      omega
    subst this
    simp only [V.cells, List.getElem?_cons_zero, Option.some.injEq] at hj
    subst hj
    exact ⟨.int .u8 n, by simp [Arr.esz, hn], .int ..⟩
  · obtain ⟨n, _, rfl⟩ := List.mem_map.1 hu
    rfl

theorem app_eq {x y : Arr V} {K : Arr V → Option R} {r : R} (h : x.app y K = some r) : ∃ z, K z = some r ∧ z.toL = x.toL ++ y.toL ∧ z.esz = x.esz ∧ z.len = x.len + y.len := by
  unfold Arr.app at h
  split at h
  · split at h
    · rename_i hk; subst hk; exact ⟨_, h, by simp [Arr.toL], rfl, by simp [Arr.len]⟩
    · exact absurd h (by simp)
  · exact ⟨_, h, by simp [Arr.toL], rfl, by simp [Arr.len]⟩
  · exact ⟨_, h, by simp [Arr.toL], rfl, by simp [Arr.len]⟩
  · split at h
    · rename_i hk; subst hk; exact ⟨_, h, by simp [Arr.toL], rfl, by simp [Arr.len]⟩
    · exact absurd h (by simp)
  · exact absurd h (by simp)

/-- owned rows, one behind the other -/
theorem ownS_app {v v' : Value} {x y z : Arr V} {xs news : List Value} {w' : World} {S' : Nat → Prop} (hx : Src P S w v x xs) {vy : Value} (hy : Src P S w vy y news) (hpos : 0 < x.esz) (he : y.esz = x.esz)
    (hz : z.toL = x.toL ++ y.toL) (hze : z.esz = x.esz) (hzl : z.len = x.len + y.len) {e' : TypeId} (hown : w'.ownsRow 0 e' x.esz v' (x.len + y.len) (xs ++ news)) (hS : ∀ b, S b → S' b) (hw : ∀ b, S b → w'.heap[b]? = w.heap[b]?) : OwnS S' w' v' z := by
  have hsz : ∀ (i : Nat) u, z.toL[i]? = some u → u.cells.length = z.esz := by
    intro i u hi
    rw [hz] at hi
    rw [hze]
    by_cases hlt : i < x.toL.length
    · rw [List.getElem?_append_left hlt] at hi
      exact hx.size i u hi
    · rw [List.getElem?_append_right (by omega)] at hi
      rw [← he]; exact hy.size _ u hi
  refine ⟨by rw [hze]; exact hpos, ⟨e', xs ++ news, by rw [hze, hzl]; exact hown, fun i u j c hi hj => ?_⟩, hsz⟩
  rw [hze]
  have hj' : j < x.esz := by rw [← hze, ← hsz i u hi]; exact (List.getElem?_eq_some_iff.1 hj).1
  rw [hz] at hi
  by_cases hlt : i < x.toL.length
  · rw [List.getElem?_append_left hlt] at hi
    obtain ⟨q, h1, h2⟩ := hx.rep i u j c hi hj
    exact ⟨q, by rw [List.getElem?_append_left (List.getElem?_eq_some_iff.1 h1).1]; exact h1, h2.mono hS hw⟩
  · rw [List.getElem?_append_right (by omega)] at hi
    obtain ⟨q, h1, h2⟩ := hy.rep _ u j c hi hj
    refine ⟨q, ?_, h2.mono hS hw⟩
    have hl := hx.len
    rw [Arr.length_toL] at hlt h1
    have e1 : i * x.esz = x.len * x.esz + (i - x.len) * x.esz := by rw [← Nat.add_mul]; congr 1; omega
    rw [List.getElem?_append_right (by omega), ← h1, he]
    congr 1
    omega
end
end Go.Proofs.Ytfkkigbbejhfbaa.Idl
/- The operations on places, all of them but calls. -/
namespace Go.Proofs.Ytfkkigbbejhfbaa.Idl
open Go
variable {P : Program}
section
variable {F : Fx} {S S' : Nat → Prop} {own own' : Nat → Option Nat} {T T' : Nat → Value} {s : St} {a : Act} {w w' : World} {M : List V} {R : Type}

theorem TyOK.esz {e : Nat} {te : TI} (h : TyOK P e te) : te.ek.nil.esz = te.size := by
  have := h.ek
  cases hk : te.ek with
  | ints k => rw [hk] at this; exact this.symm
  | bools => rw [hk] at this; exact this.symm
  | strs => rw [hk] at this; exact this.symm
  | vals n => rw [hk] at this; exact this
theorem EK.nil_len (k : EK) : k.nil.len = 0 := by cases k <;> rfl

theorem ownS_nil {ar : Arr V} (h0 : ar.len = 0) (hp : 0 < ar.esz) : OwnS S w (.slice none 0 0) ar := by
  have he : ar.toL = [] := List.eq_nil_of_length_eq_zero (by rw [Arr.length_toL]; exact h0)
  refine ⟨hp, ⟨0, [], by rw [h0]; exact World.ownsRow_nil w 0 0 ar.esz, fun i u j c hi => by simp [he] at hi⟩, fun i u hi => by simp [he] at hi⟩

/-- a new place without memory -/
theorem FR.newNil (h : FR F S own T s a w) (ar : Arr V) (h0 : ar.len = 0) (hp : 0 < ar.esz) :
    ∃ own' T', FR F S own' T' { s with M := s.M ++ [.sl true ar] } a w ∧ T' s.M.length = .slice none 0 0 ∧ Later S S w w T T' s.M (s.M ++ [.sl true ar]) ∧ (∀ b, own' b = own b) := by
  obtain ⟨own', T', h1, h2, _, h4, h5⟩ := h.newPlace (w' := w) (.slice none 0 0) (.sl true ar) none (fun _ _ _ => rfl) (Nat.le_refl _) ⟨rfl, rfl, rfl⟩ (fun b hb => by cases hb)
    (fun own' T' _ hT _ _ => by
      refine ⟨by rw [hT]; exact ownS_nil h0 hp, fun b hb => ?_⟩
      rw [hT] at hb; cases hb)
  exact ⟨own', T', h1, h2, h4, fun b => by rw [h5 b]; simp⟩

theorem typed_sound {E : Env} (hE : EnvOK P E) (h : FR F S own T s a w) {t : Nat} {v : Value} {c : V} (hrt : RTV S w T s.M v c) {Kc : List V → V → Option R} {r : R} (hk : typed E s.M t c Kc = some r) :
    ∃ own' T' M' c', FR F S own' T' { s with M := M' } a w ∧ Later S S w w T T' s.M M' ∧ RTV S w T' M' v c' ∧ c' ≠ .nils ∧ (∀ id, id < s.M.length → pl M' id = pl s.M id) ∧ (∀ b, own' b = own b) ∧ Kc M' c' = some r := by
  unfold typed at hk
  split at hk
  · split at hk
    · rename_i te hte
      obtain ⟨e, hu, hte', hT⟩ := elemTI_ok hE hte
      obtain ⟨own', T', h1, h2, h3, h4⟩ := h.newNil te.ek.nil te.ek.nil_len (by rw [hT.esz]; exact hT.pos)
      refine ⟨own', T', _, .rs s.M.length, h1, h3, show RT S w T' _ v (.rs s.M.length) from ⟨by simp, ?_, ?_⟩, by simp, fun id hid => by rw [pl_push, if_neg (by omega)], h4, hk⟩
      · rw [h2]; exact rtv_nils hrt
      · rw [rtv_nils hrt]; rfl
    · exact absurd hk (by simp)
  · rename_i n
    exact ⟨own, T, s.M, c, h, .refl, hrt, fun e => n e, fun _ _ => rfl, fun _ => rfl, hk⟩

theorem isSl_ok {E : Env} (hE : EnvOK P E) {t : Nat} (h : isSl E t = true) : ∃ e, P.underlying t = some (.slice e) := by
  unfold isSl at h
  split at h
  · rename_i ti hti
    have := (hE.ty t ti hti).desc
    split at h
    · rename_i e hd; rw [hd] at this; exact ⟨e, this⟩
    · exact absurd h (by simp)
  · exact absurd h (by simp)
theorem isStr_ok {E : Env} (hE : EnvOK P E) {t : Nat} (h : isStr E t = true) : P.underlying t = some .string := by
  unfold isStr at h
  split at h
  · rename_i ti hti
    have := (hE.ty t ti hti).desc
    split at h
    · rename_i hd; rw [hd] at this; exact this
    · exact absurd h (by simp)
  · exact absurd h (by simp)

/-- behind an append: the old place is dead, a new one holds the result -/
theorem append_place {E : Env} (_hE : EnvOK P E) (h : FR F S own T s a w) {t u e ty : Nat} {te : TI} (hu : P.underlying t = some (.slice e)) (hT : TyOK P e te) (hby : te.bytes ≤ 4096) {du : TypeDesc} (hdu : P.underlying u = some du) (hnint : ∀ k, du ≠ .int k)
    {id : Nat} {ar br z : Arr V} (hpl : pl s.M id = .sl true ar) (hesz : ar.esz = te.size) {vy : Value} {news : List Value} (hsrc : Src P S w vy br news) (hbe : br.esz = ar.esz) (hb : ar.len + br.len ≤ bound)
    (hz : z.toL = ar.toL ++ br.toL) (hze : z.esz = ar.esz) (hzl : z.len = ar.len + br.len) :
    ∃ v w' own' T', (Builtin.append_ #[t, u] ty #[T id, vy]).run P w = .ok v w' ∧ FR F S own' T' { s with M := s.M.set id .dead ++ [.sl true z] } a w' ∧ RTV S w' T' (s.M.set id .dead ++ [.sl true z]) v (.rs (s.M.set id .dead).length) := by
  have hlt := pl_lt hpl (by simp)
  obtain ⟨hO, hob⟩ := h.place hpl (by simp)
  obtain ⟨xs, hxs, e0, hrow⟩ := src_own (P := P) hO
  obtain ⟨i, zz, hi, hsz, hbb, hzz, hzc, _, _⟩ := hT.info
  obtain ⟨v', w', e', hrun, hown', hgr, hnew⟩ := append_core (P := P) t u ty e i zz du ar.esz hu hdu hnint hi hzz (by omega) (by omega) (by omega) hO.pos (T id) ar.len xs ⟨e0, hrow⟩ vy br.len news (by rw [hsrc.len, hbe]) hsrc.lenOf
    (by rw [← hbe]; exact hsrc.cells) hsrc.one hb
  have hd := h.drop id False .dead hlt (fun _ _ e => by cases e) trivial
  have hS0 : ∀ b, plus S False own id b ↔ S b := fun b => ⟨fun hb => by rcases hb with hb | ⟨hf, _⟩; exact hb; exact hf.elim, fun hb => .inl hb⟩
  have hS0' : plus S False own id = S := funext fun b => propext (hS0 b)
  rw [hS0'] at hd
  have hsame : ∀ b, b < w.heap.size → (S b ∨ F.K b ∨ ∃ j, without own id b = some j) → w'.heap[b]? = w.heap[b]? := by
    intro b hbl hc
    refine hgr.block b hbl (fun hbo => ?_)
    have hbid := hob b hbo.symm
    obtain ⟨_, h2, h3, _⟩ := h.own b id hbid
    rcases hc with hc | hc | ⟨j, hc⟩
    · exact h2 hc
    · exact h3 hc
    · simp [without, hbid] at hc
  have hSrow : ∀ b, S b → w'.heap[b]? = w.heap[b]? := fun b hb => hsame b (h.slt b hb) (.inl hb)
  obtain ⟨own2, T2, f2, hT2, _, _, _⟩ := hd.newPlace (w' := w') v' (.sl true z) v'.ownBlock hsame hgr.size ⟨hgr.os, hgr.tape, hgr.output⟩
    (fun b hbv => by
      refine ⟨(World.ownsRow.lt hown' b hbv).2, fun hbl => ?_⟩
      rcases hnew b hbv with hge | hold
      · omega
      · have hbid := hob b hold
        obtain ⟨_, h2, h3, _⟩ := h.own b id hbid
        exact ⟨h2, h3, by simp [without, hbid]⟩)
    (fun own' T' ho hTv _ _ => by
      refine ⟨?_, fun b hbv => ho b (by rw [hTv] at hbv; exact hbv)⟩
      rw [hTv]
      exact ownS_app hxs hsrc hO.pos hbe hz hze hzl hown' (fun _ h => h) hSrow)
  refine ⟨v', w', own2, T2, hrun, f2, show RT S w' T2 _ v' (.rs _) from ⟨by simp, hT2.symm, ?_⟩⟩
  rcases hown'.2 with ⟨rfl, _⟩ | ⟨g, cap, cur, rfl, _⟩ <;> rfl

theorem appendV_sound {E : Env} (hE : EnvOK P E) (h : FR F S own T s a w) {t u ty : Nat} {vx vy : Value} {x y : V} (hx : RTV S w T s.M vx x) (hy : RTV S w T s.M vy y) {Kc : List V → V → Option R} {r : R} (hk : appendV E s.M t u x y Kc = some r) :
    ∃ v w' own' T' M' c, (Builtin.append_ #[t, u] ty #[vx, vy]).run P w = .ok v w' ∧ FR F S own' T' { s with M := M' } a w' ∧ RTV S w' T' M' v c ∧ Kc M' c = some r := by
  unfold appendV at hk
  split at hk
  · exact absurd hk (by simp)
  · rename_i te hte
    obtain ⟨e, hu, _, hT⟩ := elemTI_ok hE hte
    split at hk
    · rename_i hby
      obtain ⟨own1, T1, M1, c1, h1, L1, hx1, -, -, -, hk2⟩ := typed_sound hE h hx hk
      have hy1 : RTV S w T1 M1 vy y := hy.later L1
      clear hk hx hy
      have hk := hk2
      clear hk2
      split at hk
      · rename_i id
        obtain ⟨hlt, rfl, _⟩ := (show RT S w T1 M1 vx (.rs id) from hx1)
        split at hk
        · rename_i ar hpl
          split at hk
          · rename_i hesz
            have go : ∀ {br z : Arr V} {du : TypeDesc} {news : List Value}, P.underlying u = some du → (∀ k, du ≠ .int k) → Src P S w vy br news → br.esz = ar.esz → ar.len + br.len ≤ bound →
                z.toL = ar.toL ++ br.toL → z.esz = ar.esz → z.len = ar.len + br.len → Kc (M1.set id .dead ++ [V.sl true z]) (.rs M1.length) = some r →
                ∃ v w' own' T' M' c, (Builtin.append_ #[t, u] ty #[T1 id, vy]).run P w = .ok v w' ∧ FR F S own' T' { s with M := M' } a w' ∧ RTV S w' T' M' v c ∧ Kc M' c = some r := by
              intro br z du news hdu hn hsrc hbe hb hz hze hzl hk'
              obtain ⟨v, w', own2, T2, q1, q2, q3⟩ := append_place (P := P) (ty := ty) hE h1 hu hT hby hdu hn hpl hesz hsrc hbe hb hz hze hzl
              refine ⟨v, w', own2, T2, _, _, q1, q2, q3, ?_⟩
              simpa using hk'
            have slice : isSl E u = true → (∃ br news, Src P S w vy br news ∧ sliceOf M1 y (fun b => if ar.len + b.len ≤ bound ∧ b.esz = ar.esz then ar.app b fun ab => Kc (M1.set id .dead ++ [V.sl true ab]) (.rs M1.length) else none) = (if ar.len + br.len ≤ bound ∧ br.esz = ar.esz then ar.app br fun ab => Kc (M1.set id .dead ++ [V.sl true ab]) (.rs M1.length) else none)) →
                sliceOf M1 y (fun b => if ar.len + b.len ≤ bound ∧ b.esz = ar.esz then ar.app b fun ab => Kc (M1.set id .dead ++ [V.sl true ab]) (.rs M1.length) else none) = some r →
                ∃ v w' own' T' M' c, (Builtin.append_ #[t, u] ty #[T1 id, vy]).run P w = .ok v w' ∧ FR F S own' T' { s with M := M' } a w' ∧ RTV S w' T' M' v c ∧ Kc M' c = some r := by
              rintro hsl ⟨br, news, hsrc, e1⟩ hk'
              rw [e1] at hk'
              obtain ⟨e2, hdu⟩ := isSl_ok hE hsl
              split at hk'
              · rename_i hb
                obtain ⟨z, hk2, hz, hze, hzl⟩ := app_eq hk'
                exact go hdu (by simp) hsrc hb.2 hb.1 hz hze hzl hk2
              · exact absurd hk' (by simp)
            split at hk
            · split at hk
              · rename_i hsl
                obtain ⟨hsl, hbd⟩ := hsl
                have ey := rtv_nils hy1
                subst ey
                obtain ⟨e2, hdu⟩ := isSl_ok hE hsl
                have hsrc : Src P S w (.slice none 0 0) (ar.cut 0 0) [] := src_empty (by rw [cut_len]; simp) ⟨none, 0, rfl⟩
                exact go hdu (by simp) hsrc (cut_esz ar 0 0) (by rw [cut_len]; omega) (by rw [cut_toL]; simp) rfl (by rw [cut_len]; simp) hk
              · exact absurd hk (by simp)
            · rename_i b
              have ey := rtv_str hy1
              subst ey
              split at hk
              · rename_i l
                split at hk
                · rename_i hb
                  have hdu := isStr_ok hE hb.2
                  have hlen : (strBytes b).length = b.size := by rw [strBytes, List.length_map]; exact Array.length_toList
                  exact go (br := .ints .u8 (strBytes b)) (z := .ints .u8 (l ++ strBytes b)) hdu (by simp) src_str rfl (by simp [Arr.len, hlen]; exact hb.1) (by simp [Arr.toL]) rfl (by simp [Arr.len]) hk
                · exact absurd hk (by simp)
              · exact absurd hk (by simp)
            · rename_i id'
              split at hk
              · exact absurd hk (by simp)
              · rename_i hne
                split at hk
                · rename_i hsl
                  obtain ⟨hlt', rfl, _⟩ := (show RT S w T1 M1 vy (.rs id') from hy1)
                  refine slice hsl ?_ hk
                  simp only [sliceOf] at hk ⊢
                  split at hk
                  · rename_i o br hpl'
                    have hP := h1.place hpl' (by simp)
                    cases o with
                    | true =>
                      obtain ⟨news, hsrc, _⟩ := src_own (P := P) hP.1
                      exact ⟨br, news, hsrc, rfl⟩
                    | false =>
                      obtain ⟨news, hsrc⟩ := src_shared (P := P) (show RepL S w (T1 id') (.sl false br) from hP)
                      exact ⟨br, news, hsrc, rfl⟩
                  · exact absurd hk (by simp)
                · exact absurd hk (by simp)
            · split at hk
              · rename_i n1 n2 n3 hsl
                refine slice hsl ?_ hk
                unfold sliceOf at hk ⊢
                split at hk
                · rename_i o br
                  have hrep := rtv_sl hy1
                  cases o with
                  | true => cases hrep
                  | false =>
                    obtain ⟨news, hsrc⟩ := src_shared (P := P) hrep
                    exact ⟨br, news, hsrc, rfl⟩
                · rename_i id'
                  exact absurd rfl (n3 id')
                · exact absurd hk (by simp)
              · exact absurd hk (by simp)
          · exact absurd hk (by simp)
        · exact absurd hk (by simp)
      · exact absurd hk (by simp)
    · exact absurd hk (by simp)
end
end Go.Proofs.Ytfkkigbbejhfbaa.Idl
/- The operations on places: made, written, shared. -/
namespace Go.Proofs.Ytfkkigbbejhfbaa.Idl
open Go
variable {P : Program}
section
variable {F : Fx} {S S' : Nat → Prop} {own own' : Nat → Option Nat} {T T' : Nat → Value} {s : St} {a : Act} {w w' : World} {M : List V} {R : Type}

def HPost (F : Fx) (Kc : St → Option R) (r : R) (a' : Act) (w' : World) : Prop := ∃ S own T s, FR F S own T s a' w' ∧ Kc s = some r

theorem FR.put' (h : FR F S own T { s with M := M } a w) {v : Value} {c : V} (d : Option Tmp) (hc : RTV S w T M v c) : FR F S own T ({ s with M := M }.put d c) (a.put d v) w :=
  FR.put (s := { s with M := M }) h d hc

theorem layZero_sound : ∀ (l : List V) (M : List V) (own : Nat → Option Nat) (T : Nat → Value) (xs : List Value), FR F S own T { s with M := M } a w → xs.length = l.length → (∀ (j : Nat) x c, xs[j]? = some x → l[j]? = some c → ZeroL x c) →
    ∃ own' T', FR F S own' T' { s with M := (layZero M l).1 } a w ∧ Later S S w w T T' M (layZero M l).1 ∧ (∀ b, own' b = own b) ∧ (layZero M l).2.length = l.length ∧
      (∀ (j : Nat) x c, xs[j]? = some x → (layZero M l).2[j]? = some c → okCell c = true ∧ RT S w T' (layZero M l).1 x c)
  | [], M, own, T, xs, h, _, _ => ⟨own, T, h, .refl, fun _ => rfl, rfl, fun j x c _ hc => by simp [layZero] at hc⟩
  | c :: l, M, own, T, [], h, hl, _ => by simp at hl
  | c :: l, M, own, T, x :: xs, h, hl, hz => by
    have h0 := hz 0 x c rfl rfl
    have hz' : ∀ (j : Nat) x c, xs[j]? = some x → l[j]? = some c → ZeroL x c := fun j x c hx hc => hz (j + 1) x c hx hc
    have plain : (∀ o ar, c ≠ .sl o ar) → ∃ own' T', FR F S own' T' { s with M := (layZero M l).1 } a w ∧ Later S S w w T T' M (layZero M l).1 ∧ (∀ b, own' b = own b) ∧ (c :: (layZero M l).2).length = (c :: l).length ∧
      (∀ (j : Nat) y d, (x :: xs)[j]? = some y → (c :: (layZero M l).2)[j]? = some d → okCell d = true ∧ RT S w T' (layZero M l).1 y d) := by
      intro hn
      obtain ⟨own', T', f, L, ho, hlen, hr⟩ := layZero_sound l M own T xs h (by simpa using hl) hz'
      refine ⟨own', T', f, L, ho, by simp [hlen], fun j y d hy hd => ?_⟩
      cases j with
      | zero =>
        simp only [List.getElem?_cons_zero, Option.some.injEq] at hy hd
        subst hy hd
        refine ⟨?_, (zeroL_rt h0).2⟩
        cases c <;> first | rfl | exact h0.elim | exact absurd rfl (hn _ _)
      | succ j => exact hr j y d hy hd
    cases c with
    | sl o ar =>
      obtain ⟨_, hl0, hpos, hx⟩ := h0
      subst hx
      obtain ⟨own1, T1, f1, hT1, L1, ho1⟩ := FR.newNil (s := { s with M := M }) h ar hl0 hpos
      obtain ⟨own', T', f, L, ho, hlen, hr⟩ := layZero_sound l (M ++ [.sl true ar]) own1 T1 xs f1 (by simpa using hl) hz'
      refine ⟨own', T', f, L1.trans L, fun b => (ho b).trans (ho1 b), by simp [layZero, hlen], fun j y d hy hd => ?_⟩
      cases j with
      | zero =>
        simp only [layZero, List.getElem?_cons_zero, Option.some.injEq] at hy hd
        subst hy hd
        refine ⟨rfl, Nat.lt_of_lt_of_le (by simp) L.hM, ?_, rfl⟩
        rw [L.hT M.length (by simp)]
        exact hT1.symm
      | succ j => exact hr j y d hy (by simpa [layZero] using hd)
    | _ => exact plain (by simp)

/-- a new object -/
theorem FR.newObj (h : FR F S own T { s with M := M } a w) (cs : Array Value) (l : List V) (t : TypeId) (hl : cs.size = l.length) (hr : ∀ (j : Nat) x c, cs[j]? = some x → l[j]? = some c → okCell c = true ∧ RT S w T M x c) :
    ∃ own' T', FR F S own' T' { s with M := M ++ [.pt l] } a (w.alloc (.cells cs t)) ∧ RTV S (w.alloc (.cells cs t)) T' (M ++ [.pt l]) (.pointer (some ⟨w.heap.size, 0, none⟩)) (.pr M.length 0) := by
  obtain ⟨own', T', f, hT, _, L, _⟩ := FR.newPlace (s := { s with M := M }) (w' := w.alloc (.cells cs t)) h (.pointer (some ⟨w.heap.size, 0, none⟩)) (.pt l) (some w.heap.size)
    (fun b hb _ => Go.Proofs.Ytfkkigbbejhfbaa.Idl.heap_alloc_o w _ b hb) (by simp) ⟨rfl, rfl, rfl⟩ (fun b hb => by cases hb; exact ⟨by simp, fun h => absurd h (by omega)⟩)
    (fun own' T' ho hT _ L => ⟨w.heap.size, cs, t, hT, heap_alloc_new w _, hl, fun j x c hx hc => ⟨(hr j x c hx hc).1, (hr j x c hx hc).2.later L⟩, ho _ rfl⟩)
  exact ⟨own', T', f, show RT S (w.alloc (.cells cs t)) T' (M ++ [.pt l]) (.pointer (some ⟨w.heap.size, 0, none⟩)) (.pr M.length 0) from ⟨by simp, w.heap.size, hT, rfl⟩⟩

theorem cells_of {v : Value} {c : V} (h : RTV S w T M v c) (hok : c.cells.all okCell = true) : v.cells.size = c.cells.length ∧ (∀ (j : Nat) x d, v.cells[j]? = some x → c.cells[j]? = some d → okCell d = true ∧ RT S w T M x d) := by
  rw [List.all_eq_true] at hok
  have one : (∀ l, c ≠ .agg l) → c.cells = [c] → v.cells.size = c.cells.length ∧ (∀ (j : Nat) x d, v.cells[j]? = some x → c.cells[j]? = some d → okCell d = true ∧ RT S w T M x d) := by
    intro hn hc
    rw [hc] at hok ⊢
    have ho := hok c (by simp)
    have hrt : RT S w T M v c := by
      cases c with
      | agg l => exact absurd rfl (hn l)
      | tup l => simp [okCell] at ho
      | _ => exact h
    have h1 := rt_one hrt (by intro e; subst e; simp [okCell] at ho) (by intro id i off e; subst e; simp [okCell] at ho)
    rw [one_cells h1]
    refine ⟨rfl, fun j x d hx hd => ?_⟩
    cases j with
    | zero => simp at hx hd; subst hx hd; exact ⟨ho, hrt⟩
    | succ j => simp at hd
  cases c with
  | agg l =>
    obtain ⟨cs, rfl, hlen, hr⟩ := h
    refine ⟨by simpa [Value.cells, V.cells] using hlen, fun j x d hx hd => ?_⟩
    simp only [Value.cells, V.cells, List.getElem?_toArray] at hx hd
    exact ⟨hok d (List.mem_of_getElem? hd), (hr j x d hx hd).2⟩
  | _ => exact one (by simp) rfl

/-! ### stores -/
theorem setCells_heap : ∀ (vs : List Value) (b o : Nat) (w : World) (cur : Array Value) (e : TypeId) (fz : Nat × Nat), w.heap[b]? = some (.cells cur e fz) → o + vs.length ≤ cur.size →
    (w.setCells b o vs).heap[b]? = some (.cells (cur.toList.take o ++ vs ++ cur.toList.drop (o + vs.length)).toArray e fz)
  | [], b, o, w, cur, e, fz, h, _ => by
    simp [World.setCells, h]
  | v :: vs, b, o, w, cur, e, fz, h, hl => by
    simp only [World.setCells]
    have h1 : (w.setCell ⟨b, o, none⟩ v).heap[b]? = some (.cells (cur.setIfInBounds o v) e fz) := by
      simp only [World.setCell, Array.getElem?_modify, if_true, h, Option.map_some]
      rfl
    rw [setCells_heap vs b (o + 1) _ _ e fz h1 (by simp at hl ⊢; omega)]
    congr 2
    simp only [Array.toList_setIfInBounds, List.length_cons] at hl ⊢
    have hlt : o < cur.toList.length := by simp; omega
    rw [List.take_add_one, List.getElem?_set_self hlt, List.take_set_of_le (Nat.le_refl _), List.drop_set_of_lt (by omega)]
    simp
    congr 1
    omega
theorem setCells_other : ∀ (vs : List Value) (b o : Nat) (w : World) (k : Nat), k ≠ b → (w.setCells b o vs).heap[k]? = w.heap[k]?
  | [], _, _, _, _, _ => rfl
  | v :: vs, b, o, w, k, h => by
    simp only [World.setCells]
    rw [setCells_other vs b (o + 1) _ k h]
    simp only [World.setCell, Array.getElem?_modify]
    rw [if_neg (Ne.symm h)]
theorem setCells_same : ∀ (vs : List Value) (b o : Nat) (w : World), (w.setCells b o vs).heap.size = w.heap.size ∧ (w.setCells b o vs).os = w.os ∧ (w.setCells b o vs).tape = w.tape ∧ (w.setCells b o vs).output = w.output
  | [], _, _, _ => ⟨rfl, rfl, rfl, rfl⟩
  | v :: vs, b, o, w => by
    simp only [World.setCells]
    obtain ⟨h1, h2, h3, h4⟩ := setCells_same vs b (o + 1) (w.setCell ⟨b, o, none⟩ v)
    exact ⟨h1.trans (by simp [World.setCell]), h2, h3, h4⟩

theorem run_storeAt_ok {t : Nat} {ti : TI} (hT : TyOK P t ti) (b o : Nat) (v : Value) (hsz : v.cells.size = ti.size) {cur : Array Value} {e : TypeId} (hb : w.heap[b]? = some (.cells cur e (0, 0))) (ho : o + v.cells.size ≤ cur.size)
    (h1 : ∀ u ∈ v.cells.toList, u.oneCell' = true) : (Instr.storeAt t (.pointer (some ⟨b, o, none⟩)) v).run P w = .ok () (w.setCells b o v.cells.toList) := by
  have hst := run_storeCells_cells (P := P) b o v.cells.toList 0 w (fun j hj => by
      have : j < v.cells.size := by simpa using hj
      simp only [World.cell?, hb, Nat.add_zero]
      simp [show o + j < cur.size by omega]) (fun j hj => by simp [World.frozen?, hb]) h1
  simp only [Nat.add_zero] at hst
  simp only [Instr.storeAt, Instr.sureAddr, storeVar, Sem.run_bind, Sem.run_pure, Result.andThen_ok, hT.sizeOf, hsz, ne_eq, not_true_eq_false, if_false, hst]

theorem FR.storeObj (h : FR F S own T { s with M := M } a w) {id b : Nat} {cs : Array Value} {e : TypeId} {l : List V} (hpl : pl M id = .pt l) (hT : T id = .pointer (some ⟨b, 0, none⟩)) (hb : w.heap[b]? = some (.cells cs e (0, 0))) (hl : cs.size = l.length)
    (hr : ∀ (j : Nat) x c, cs[j]? = some x → l[j]? = some c → okCell c = true ∧ RT S w T M x c) (hob : own b = some id) (off : Nat) (vs : List Value) (ds : List V) (hlen : vs.length = ds.length) (hoff : off + ds.length ≤ l.length)
    (hv : ∀ (j : Nat) x c, vs[j]? = some x → ds[j]? = some c → okCell c = true ∧ RT S w T M x c) :
    FR F S own T { s with M := M.set id (.pt (l.take off ++ ds ++ l.drop (off + ds.length))) } a (w.setCells b off vs) := by
  have hlt := pl_lt hpl (by simp)
  obtain ⟨hs1, hs2, hs3, hs4⟩ := setCells_same vs b off w
  obtain ⟨hbl, hnS, hnK, _⟩ := h.own b id hob
  have hoth : ∀ k, k ≠ b → (w.setCells b off vs).heap[k]? = w.heap[k]? := fun k hk => setCells_other vs b off w k hk
  have L : Later S S w (w.setCells b off vs) T T M (M.set id (.pt (l.take off ++ ds ++ l.drop (off + ds.length)))) := ⟨fun _ h => h, fun k hk => hoth k (fun e => hnS (e ▸ hk)), fun _ _ => rfl, by simp, fun j o ar hj hp => by
    rw [pl_set] at hp
    split at hp
    · cases hp
    · exact ⟨o, ar, hp, rfl, rfl⟩⟩
  have hrel : CellsRel S w T M cs.toList l := ⟨by simpa using hl, fun j x c hx hc => by
    have := hr j x c (by rw [← Array.getElem?_toList]; exact hx) hc
    exact ⟨by intro e; subst e; simp [okCell] at this, this.2⟩⟩
  refine FR.change (s := { s with M := M }) h L (fun j c hc => ?_) (fun k j hk => ?_) (fun k hk => by rw [hs1]; exact h.slt k hk) (fun k hk => hoth k (fun e => hnK (e ▸ hk))) (by rw [hs1]; exact Nat.le_refl _) ⟨hs2, hs3, hs4⟩ (fun k hk => .inl hk)
  · by_cases hj : j = id
    · subst hj
      rw [List.getElem?_set_self hlt] at hc
      cases hc
      refine ⟨b, _, e, hT, setCells_heap vs b off w cs e (0, 0) hb (by omega), by simp; omega, fun k x c hx hc => ?_, hob⟩
      rw [List.getElem?_toArray] at hx
      have e1 : (cs.toList.take off ++ vs ++ cs.toList.drop (off + vs.length)) = (cs.toList.take off ++ vs ++ cs.toList.drop (off + vs.length)) := rfl
      have hok : okCell c = true := by
        have hm := List.mem_of_getElem? hc
        rw [List.mem_append, List.mem_append] at hm
        rcases hm with (hm | hm) | hm
        · obtain ⟨i, hi, rfl⟩ := List.getElem_of_mem (List.mem_of_mem_take hm)
          exact (hr i (cs[i]'(by omega)) _ (Array.getElem?_eq_getElem (by omega)) (List.getElem?_eq_getElem hi)).1
        · obtain ⟨i, hi, rfl⟩ := List.getElem_of_mem hm
          exact (hv i (vs[i]'(by omega)) _ (List.getElem?_eq_getElem (by omega)) (List.getElem?_eq_getElem hi)).1
        · obtain ⟨i, hi, rfl⟩ := List.getElem_of_mem (List.mem_of_mem_drop hm)
          exact (hr i (cs[i]'(by omega)) _ (Array.getElem?_eq_getElem (by omega)) (List.getElem?_eq_getElem hi)).1
      have hrel2 : CellsRel S w T M vs ds := ⟨hlen, fun j x c hx hc => by
        have := hv j x c hx hc
        exact ⟨by intro e; subst e; simp [okCell] at this, this.2⟩⟩
      have := hrel.splice hrel2 off hoff
      exact ⟨hok, ((this.2 k x c hx hc).2).later L⟩
    · rw [List.getElem?_set_ne (Ne.symm hj)] at hc
      refine (h.places j c hc).later L (List.getElem?_eq_some_iff.1 hc).1 (fun k hk => ⟨hk, hoth k (fun e => ?_)⟩)
      subst e
      rw [hob] at hk
      cases hk
      exact hj rfl
  · obtain ⟨h1, h2, h3, h4⟩ := h.own k j hk
    exact ⟨by rw [hs1]; exact h1, h2, h3, by simpa using h4⟩

theorem set_eq {ar : Arr V} {i off : Nat} {c : V} {K : Arr V → Option R} {r : R} (h : ar.set i off c K = some r) :
    ∃ ar', K ar' = some r ∧ off = 0 ∧ ar.esz = 1 ∧ ar'.esz = 1 ∧ ar'.len = ar.len ∧ ar'.toL = ar.toL.set i c := by
  unfold Arr.set at h
  split at h
  · split at h
    · rename_i hk; obtain ⟨rfl, h0⟩ := hk; exact ⟨_, h, h0, rfl, rfl, by simp [Arr.len], by simp [Arr.toL, List.map_set]⟩
    · exact absurd h (by simp)
  · split at h
    · rename_i h0; exact ⟨_, h, h0, rfl, rfl, by simp [Arr.len], by simp [Arr.toL, List.map_set]⟩
    · exact absurd h (by simp)
  · split at h
    · rename_i h0; exact ⟨_, h, h0, rfl, rfl, by simp [Arr.len], by simp [Arr.toL, List.map_set]⟩
    · exact absurd h (by simp)
  · split at h
    · rename_i h0; obtain ⟨rfl, h0⟩ := h0; exact ⟨_, h, h0, rfl, rfl, by simp [Arr.len], by simp [Arr.toL]⟩
    · exact absurd h (by simp)
  · exact absurd h (by simp)

theorem ownS_set {v : Value} {ar ar' : Arr V} {g len cap : Nat} (h : OwnS S w v ar) (hv : v = .slice (some ⟨g, 0, none⟩) len cap) {i : Nat} {x : Value} {c : V} (hx : RepL S w x c) (h1 : ar.esz = 1) (h2 : ar'.esz = 1) (h3 : ar'.len = ar.len) (h4 : ar'.toL = ar.toL.set i c) (hg : ¬ S g) :
    OwnS S (w.setCell ⟨g, i, none⟩ x) v ar' := by
  obtain ⟨hp, ⟨e, xs, hown, hr⟩, hz⟩ := h
  have hlc : len = ar.len := by
    rcases hown.2 with ⟨h0, _⟩ | ⟨g', cap', cur, h0, _⟩
    · rw [hv] at h0; cases h0
    · rw [hv] at h0; cases h0; rfl
  subst hlc
  rw [hv] at hown
  have hst := hown.stored i x
  have hcl : c.cells = [c] := hx.cells.2
  have hS : ∀ b, S b → (w.setCell ⟨g, i, none⟩ x).heap[b]? = w.heap[b]? := fun b hb => heap_setCell_other w ⟨g, i, none⟩ b x (fun e => by
    have e' : b = g := e
    exact hg (e' ▸ hb))
  refine ⟨by omega, ⟨e, xs.set i x, by rw [h2, h3, hv, ← h1]; exact hst.1, fun k u j d hk hj => ?_⟩, fun k u hk => ?_⟩
  · rw [h4, List.getElem?_set] at hk
    rw [h2]
    split at hk
    · rename_i hik
      subst hik
      split at hk
      · rename_i hlt
        cases hk
        rw [hcl] at hj
        cases j with
        | zero =>
          simp at hj; subst hj
          refine ⟨x, ?_, hx.mono (fun _ h => h) hS⟩
          have hl := hown.1
          rw [Arr.length_toL] at hlt
          simp only [Nat.mul_one, Nat.add_zero]
          rw [List.getElem?_set_self (by rw [hl, h1]; omega)]
        | succ j => simp at hj
      · exact absurd hk (by simp)
    · rename_i hik
      obtain ⟨q, q1, q2⟩ := hr k u j d hk hj
      have hj0 : j = 0 := by
        have := (List.getElem?_eq_some_iff.1 hj).1
        rw [hz k u hk, h1] at this
        omega
      subst hj0
      rw [h1] at q1
      refine ⟨q, ?_, q2.mono (fun _ h => h) hS⟩
      rw [List.getElem?_set_ne (by omega)]
      exact q1
  · rw [h4, List.getElem?_set] at hk
    rw [h2]
    split at hk
    · split at hk
      · cases hk; rw [hcl]; rfl
      · exact absurd hk (by simp)
    · rw [← h1]; exact hz k u hk
end
end Go.Proofs.Ytfkkigbbejhfbaa.Idl
/- The operations on places, all of them but calls: put together. -/
namespace Go.Proofs.Ytfkkigbbejhfbaa.Idl
open Go
variable {P : Program}
section
variable {F : Fx} {S S' : Nat → Prop} {own own' : Nat → Option Nat} {T T' : Nat → Value} {s : St} {a : Act} {w w' : World} {M : List V} {R : Type}

theorem FR.storeElem (h : FR F S own T { s with M := M } a w) {id g len cap i : Nat} {ar ar' : Arr V} (hpl : pl M id = .sl true ar) (hT : T id = .slice (some ⟨g, 0, none⟩) len cap) {x : Value} {c : V} (hx : RepL S w x c)
    (h1 : ar.esz = 1) (h2 : ar'.esz = 1) (h3 : ar'.len = ar.len) (h4 : ar'.toL = ar.toL.set i c) : FR F S own T { s with M := M.set id (.sl true ar') } a (w.setCell ⟨g, i, none⟩ x) := by
  have hlt := pl_lt hpl (by simp)
  obtain ⟨hO, hob⟩ := FR.place (s := { s with M := M }) h hpl (by simp)
  have hog : own g = some id := hob g (by rw [hT]; rfl)
  obtain ⟨hbl, hnS, hnK, _⟩ := h.own g id hog
  have hoth : ∀ k, k ≠ g → (w.setCell ⟨g, i, none⟩ x).heap[k]? = w.heap[k]? := fun k hk => heap_setCell_other w ⟨g, i, none⟩ k x hk
  have hsz : (w.setCell ⟨g, i, none⟩ x).heap.size = w.heap.size := by simp [World.setCell]
  have L : Later S S w (w.setCell ⟨g, i, none⟩ x) T T M (M.set id (.sl true ar')) := ⟨fun _ h => h, fun k hk => hoth k (fun e => hnS (e ▸ hk)), fun _ _ => rfl, by simp, fun j o br hj hp => by
    rw [pl_set] at hp
    split at hp
    · rename_i hji
      cases hp
      exact ⟨true, ar, by rw [hji.1]; exact hpl, by omega, by omega⟩
    · exact ⟨o, br, hp, rfl, rfl⟩⟩
  refine FR.change (s := { s with M := M }) h L (fun j c' hc => ?_) (fun k j hk => ?_) (fun k hk => by rw [hsz]; exact h.slt k hk) (fun k hk => hoth k (fun e => hnK (e ▸ hk))) (by rw [hsz]; exact Nat.le_refl _) ⟨rfl, rfl, rfl⟩ (fun k hk => .inl hk)
  · by_cases hj : j = id
    · subst hj
      rw [List.getElem?_set_self hlt] at hc
      cases hc
      exact ⟨ownS_set hO hT hx h1 h2 h3 h4 hnS, hob⟩
    · rw [List.getElem?_set_ne (Ne.symm hj)] at hc
      refine (h.places j c' hc).later L (List.getElem?_eq_some_iff.1 hc).1 (fun k hk => ⟨hk, hoth k (fun e => ?_)⟩)
      subst e
      rw [hog] at hk
      cases hk
      exact hj rfl
  · obtain ⟨q1, q2, q3, q4⟩ := h.own k j hk
    exact ⟨by rw [hsz]; exact q1, q2, q3, by simpa using q4⟩

/-! ### slices made -/
theorem FR.newSlice (h : FR F S own T { s with M := M } a w) {w' : World} (v : Value) (ar : Arr V) (hsame : ∀ b, b < w.heap.size → w'.heap[b]? = w.heap[b]?) (hsz : w.heap.size ≤ w'.heap.size) (hout : w'.os = w.os ∧ w'.tape = w.tape ∧ w'.output = w.output)
    (hnew : ∀ b, v.ownBlock = some b → w.heap.size ≤ b ∧ b < w'.heap.size) (hone : v.oneCell' = true) (hO : OwnS S w' v ar) :
    ∃ own' T', FR F S own' T' { s with M := M ++ [.sl true ar] } a w' ∧ RTV S w' T' (M ++ [.sl true ar]) v (.rs M.length) := by
  obtain ⟨own', T', f, hT, _, _, _⟩ := FR.newPlace (s := { s with M := M }) (w' := w') h v (.sl true ar) v.ownBlock (fun b hb _ => hsame b hb) hsz hout
    (fun b hb => ⟨(hnew b hb).2, fun hlt => absurd hlt (by have := (hnew b hb).1; omega)⟩)
    (fun own' T' ho hT _ _ => ⟨by rw [hT]; exact hO, fun b hb => ho b (by rw [hT] at hb; exact hb)⟩)
  exact ⟨own', T', f, show RT S w' T' (M ++ [.sl true ar]) v (.rs M.length) from ⟨by simp, hT.symm, hone⟩⟩

theorem ofParts_eq {te : TI} : ∀ (l : List (Nat × V)) (i : Nat) {K : List V → Option R} {r : R}, ofParts te l i K = some r → K (l.map (·.2)) = some r ∧ l.map (·.1) = List.range' i l.length ∧ ∀ p ∈ l, p.2.cells.length = te.size
  | [], i, K, r, h => ⟨h, rfl, fun p hp => by simp at hp⟩
  | (j, v) :: l, i, K, r, h => by
    simp only [ofParts] at h
    split at h
    · rename_i hc
      obtain ⟨h1, h2, h3⟩ := ofParts_eq l (i + 1) h
      refine ⟨h1, by simp [h2, hc.1, List.range'_succ], fun p hp => ?_⟩
      rcases List.mem_cons.1 hp with rfl | hp
      · exact hc.2
      · exact h3 p hp
    · exact absurd h (by simp)
theorem asInts_eq {k : IntKind} : ∀ (vs : List V) {K : List Int → Option R} {r : R}, asInts k vs K = some r → ∃ l, K l = some r ∧ vs = l.map (.int k)
  | [], K, r, h => ⟨[], h, rfl⟩
  | v :: vs, K, r, h => by
    cases v with
    | int k' n =>
      simp only [asInts] at h
      split at h
      · rename_i hk
        subst hk
        obtain ⟨l, h1, h2⟩ := asInts_eq vs h
        exact ⟨n :: l, h1, by simp [h2]⟩
      · exact absurd h (by simp)
    | _ => simp [asInts] at h
theorem asBools_eq : ∀ (vs : List V) {K : List Bool → Option R} {r : R}, asBools vs K = some r → ∃ l, K l = some r ∧ vs = l.map .bool
  | [], K, r, h => ⟨[], h, rfl⟩
  | v :: vs, K, r, h => by
    cases v with
    | bool n =>
      simp only [asBools] at h
      obtain ⟨l, h1, h2⟩ := asBools_eq vs h
      exact ⟨n :: l, h1, by simp [h2]⟩
    | _ => simp [asBools] at h
theorem asStrs_eq : ∀ (vs : List V) {K : List ByteArray → Option R} {r : R}, asStrs vs K = some r → ∃ l, K l = some r ∧ vs = l.map .str
  | [], K, r, h => ⟨[], h, rfl⟩
  | v :: vs, K, r, h => by
    cases v with
    | str n =>
      simp only [asStrs] at h
      obtain ⟨l, h1, h2⟩ := asStrs_eq vs h
      exact ⟨n :: l, h1, by simp [h2]⟩
    | _ => simp [asStrs] at h
theorem ofL_eq {e : EK} {vs : List V} {K : Arr V → Option R} {r : R} (h : ofL e vs K = some r) : ∃ ar, K ar = some r ∧ ar.toL = vs ∧ ar.esz = e.nil.esz := by
  cases e with
  | ints k => obtain ⟨l, h1, h2⟩ := asInts_eq vs h; exact ⟨_, h1, h2.symm, rfl⟩
  | bools => obtain ⟨l, h1, h2⟩ := asBools_eq vs h; exact ⟨_, h1, h2.symm, rfl⟩
  | strs => obtain ⟨l, h1, h2⟩ := asStrs_eq vs h; exact ⟨_, h1, h2.symm, rfl⟩
  | vals n => exact ⟨_, h, rfl, rfl⟩

theorem fill_seq (sz : Nat) : ∀ (vs : List Value) (i : Nat) (cells : List Value), (∀ v ∈ vs, v.cells.size = sz) → cells.length = (i + vs.length) * sz →
    Instr.fill (fun i => some (i * sz, sz)) cells.toArray ((List.range' i vs.length).zip vs) = some (cells.take (i * sz) ++ vs.flatMap (·.cells.toList)).toArray
  | [], i, cells, _, hl => by
    simp only [List.length_nil, Nat.add_zero] at hl
    simp [Instr.fill, ← hl]
  | v :: vs, i, cells, hv, hl => by
    have h1 : v.cells.size = sz := hv v (by simp)
    have hmul : (i + (v :: vs).length) * sz = i * sz + sz + vs.length * sz := by simp only [List.length_cons]; rw [← Nat.succ_mul, ← Nat.add_mul]; congr 1; omega
    rw [hmul] at hl
    simp only [List.length_cons, List.range'_succ, List.zip_cons_cons]
    rw [fill_one _ cells.toArray i (i * sz) sz v _ rfl h1 (by simp; omega)]
    have hlen : v.cells.toList.length = sz := by simpa using h1
    rw [fill_seq sz vs (i + 1) _ (fun u hu => hv u (by simp [hu])) (by
      have : (i + 1 + vs.length) * sz = i * sz + sz + vs.length * sz := by rw [← Nat.succ_mul, ← Nat.add_mul]
      rw [this]
      simp only [List.length_append, List.length_take, List.length_drop, hlen]
      omega)]
    congr 2
    have e1 : (i + 1) * sz = i * sz + sz := Nat.succ_mul i sz
    rw [e1, List.take_append_of_le_length (by simp only [List.length_append, List.length_take, hlen]; omega)]
    rw [List.take_of_length_le (by simp only [List.length_append, List.length_take, hlen]; omega)]
    simp

theorem flatMap_get (sz : Nat) : ∀ (vs : List Value) (i j : Nat), (∀ v ∈ vs, v.cells.size = sz) → j < sz → (vs.flatMap (·.cells.toList))[i * sz + j]? = (vs[i]?).bind fun v => v.cells[j]?
  | [], i, j, _, _ => by simp
  | v :: vs, i, j, hv, hj => by
    have h1 : v.cells.toList.length = sz := by simpa using hv v (by simp)
    cases i with
    | zero =>
      simp only [List.flatMap_cons, Nat.zero_mul, Nat.zero_add, List.getElem?_cons_zero, Option.bind_some]
      rw [List.getElem?_append_left (by omega), Array.getElem?_toList]
    | succ i =>
      simp only [List.flatMap_cons, List.getElem?_cons_succ]
      rw [List.getElem?_append_right (by rw [h1, Nat.succ_mul]; omega), ← flatMap_get sz vs i j (fun u hu => hv u (by simp [hu])) hj]
      congr 1
      rw [h1, Nat.succ_mul]
      omega

theorem shareAll_sound : ∀ (l : List V) (M : List V) (S : Nat → Prop) (own : Nat → Option Nat) (xs : List Value) (Kc : List V → List V → Option R) (r : R), FR F S own T { s with M := M } a w → xs.length = l.length →
    (∀ (j : Nat) x c, xs[j]? = some x → l[j]? = some c → RTV S w T M x c) → shareAll M l Kc = some r →
    ∃ S' own' M' l', FR F S' own' T { s with M := M' } a w ∧ Sunk F S S' own own' w T M M' ∧ l'.length = l.length ∧ (∀ (j : Nat) x c, xs[j]? = some x → l'[j]? = some c → RepA S' w x c) ∧ Kc M' l' = some r
  | [], M, S, own, xs, Kc, r, h, _, _, hk => ⟨S, own, M, [], h, .refl, rfl, fun j x c _ hc => by simp at hc, hk⟩
  | c :: l, M, S, own, [], Kc, r, h, hl, _, hk => by simp at hl
  | c :: l, M, S, own, x :: xs, Kc, r, h, hl, hrt, hk => by
    simp only [shareAll] at hk
    obtain ⟨S1, own1, M1, c1, h1, k1, r1, hk1⟩ := share_sound (s := { s with M := M }) h (hrt 0 x c rfl rfl) hk
    obtain ⟨S2, own2, M2, l2, h2, k2, e2, r2, hk2⟩ := shareAll_sound l M1 S1 own1 xs _ r h1 (by simpa using hl) (fun j x c hx hc => (hrt (j + 1) x c hx hc).later k1.later) hk1
    refine ⟨S2, own2, M2, c1 :: l2, h2, k1.trans k2, by simp [e2], fun j y d hy hd => ?_, hk2⟩
    cases j with
    | zero => simp at hy hd; subst hy hd; exact r1.mono k2.later.hS (fun _ _ => rfl)
    | succ j => exact r2 j y d hy hd

theorem repA_cells {v : Value} {c : V} (h : RepA S w v c) : v.cells.size = c.cells.length ∧ ∀ (j : Nat) x d, v.cells[j]? = some x → c.cells[j]? = some d → RepL S w x d := by
  have one : RepL S w v c → v.cells.size = c.cells.length ∧ ∀ (j : Nat) x d, v.cells[j]? = some x → c.cells[j]? = some d → RepL S w x d := by
    intro h
    rw [h.cells.1, h.cells.2]
    refine ⟨rfl, fun j x d hx hd => ?_⟩
    cases j with
    | zero => simp at hx hd; subst hx hd; exact h
    | succ j => simp at hd
  cases c with
  | agg l =>
    obtain ⟨cs, rfl, hlen, hr⟩ := h
    refine ⟨by simpa [Value.cells, V.cells] using hlen, fun j x d hx hd => ?_⟩
    simp only [Value.cells, V.cells, List.getElem?_toArray] at hx hd
    exact hr j x d hx hd
  | _ => exact one h

theorem build_own {E : Env} (hE : EnvOK P E) {t n : Nat} {te : TI} (hte : elemTI E t = some te) {parts : Array (Nat × Operand)} {l1 : List V} (hll : l1.length = parts.toList.length)
    (hrep : ∀ (j : Nat) x c, (parts.toList.map fun p => a.eval p.2)[j]? = some x → l1[j]? = some c → RepA S w x c) (hS : ∀ b, S b → b < w.heap.size) {K : Arr V → Option R} {r : R}
    (hk1 : (ofParts te ((parts.toList.map (·.1)).zip l1) 0 fun vs => if vs.length = n ∧ n * te.size ≤ 65536 then ofL te.ek vs K else none) = some r) :
    ∃ ar cells e, (Instr.buildSlice t n (parts.map fun (i, x) => (i, a.eval x))).run P w = .ok (.slice (some ⟨w.heap.size, 0, none⟩) n n) (w.alloc (.cells cells e)) ∧ OwnS S (w.alloc (.cells cells e)) (.slice (some ⟨w.heap.size, 0, none⟩) n n) ar ∧ K ar = some r := by
  obtain ⟨e, hu, _, hT⟩ := elemTI_ok hE hte
  obtain ⟨i, z, hi, hsz, hbb, hzz, hzc, _, _⟩ := hT.info
  obtain ⟨hk2, hidx, hcells⟩ := ofParts_eq _ _ hk1
  have hz2 : ((parts.toList.map (·.1)).zip l1).map (·.2) = l1 := by rw [List.map_snd_zip]; simp [hll]
  have hz1 : ((parts.toList.map (·.1)).zip l1).map (·.1) = parts.toList.map (·.1) := by rw [List.map_fst_zip]; simp [hll]
  rw [hz2] at hk2
  rw [hz1] at hidx
  have hzl : ((parts.toList.map (·.1)).zip l1).length = l1.length := by simp [hll]
  rw [hzl] at hidx
  split at hk2
  · rename_i hn
    obtain ⟨hn, hsmall⟩ := hn
    have hn65 : n ≤ 65536 := by
      have := Nat.le_mul_of_pos_right n hT.pos
      omega
    obtain ⟨ar, hk3, har, hez⟩ := ofL_eq hk2
    have hesz : ar.esz = te.size := by rw [hez]; exact hT.esz
    let xs := parts.toList.map fun p => a.eval p.2
    have hxl : xs.length = n := by simp [xs, ← hn, hll]
    have hcl : ∀ (j : Nat) c, l1[j]? = some c → c.cells.length = te.size := by
      intro j c hc
      have hm : c ∈ ((parts.toList.map (·.1)).zip l1).map (·.2) := by rw [hz2]; exact List.mem_of_getElem? hc
      obtain ⟨p, hp, rfl⟩ := List.mem_map.1 hm
      exact hcells p hp
    have hvs : ∀ v ∈ xs, v.cells.size = te.size := by
      intro v hv
      obtain ⟨j, hj, rfl⟩ := List.getElem_of_mem hv
      have hjl : j < l1.length := by omega
      have := repA_cells (hrep j xs[j] l1[j] (List.getElem?_eq_getElem hj) (List.getElem?_eq_getElem hjl))
      rw [this.1]
      exact hcl j _ (List.getElem?_eq_getElem hjl)
    let cells := xs.flatMap (·.cells.toList)
    have hfill : ∀ cs0 : List Value, cs0.length = n * te.size → Instr.fill (fun i => some (i * te.size, te.size)) cs0.toArray ((parts.map fun (x : Nat × Operand) => (x.1, a.eval x.2)).toList) = some cells.toArray := by
      intro cs0 h0
      have := fill_seq te.size xs 0 cs0 hvs (by rw [Nat.zero_add, hxl]; exact h0)
      simp only [Nat.zero_mul, List.take_zero, List.nil_append] at this
      rw [← this]
      congr 1
      have e1 : (parts.map fun (x : Nat × Operand) => (x.1, a.eval x.2)).toList = (parts.toList.map (·.1)).zip xs := by
        simp only [Array.toList_map, xs]
        rw [List.zip_map', ]
      rw [e1, hidx]
      congr 2
      omega
    have hclen : cells.length = n * te.size := by
      have : ∀ l : List Value, (∀ v ∈ l, v.cells.size = te.size) → (l.flatMap (·.cells.toList)).length = l.length * te.size := by
        intro l hl
        induction l with
        | nil => simp
        | cons v l ih =>
          simp only [List.flatMap_cons, List.length_append, List.length_cons, Nat.succ_mul]
          rw [ih (fun u hu => hl u (by simp [hu]))]
          have := hl v (by simp)
          simp only [Array.length_toList, this]
          omega
      rw [this xs hvs, hxl]
    have hrun : (Instr.buildSlice t n (parts.map fun (i, x) => (i, a.eval x))).run P w = .ok (.slice (some ⟨w.heap.size, 0, none⟩) n n) (w.alloc (.cells cells.toArray e)) := by
      have hsm : ¬ n * te.size > 2 ^ 24 := by omega
      by_cases h0 : n * te.size = 0
      · have hf := hfill [] (by simp [h0])
        have hf' : Instr.fill (fun i => some (i * te.size, te.size)) #[] (List.map (fun x => (x.fst, a.eval x.snd)) parts.toList) = some cells.toArray := by simpa using hf
        simp only [Instr.buildSlice, Sem.run_bind, run_underlying hu, Result.andThen_ok, hT.sizeOf, h0, if_true]
        simp [hf', newRow, show Array.range 0 = #[] from rfl]
      · have hf := hfill ((List.range (n * te.size)).map fun k => z.cells[k % z.cells.size]!) (by simp)
        refine run_buildSlice w t e n _ cells.toArray i z hu hi hzz (by rw [hsz]; exact hsm) (by rw [hsz]; exact h0) ?_
        rw [hsz, ← hf]
        congr 1
        apply Array.ext'
        simp
    have hO : OwnS S (w.alloc (.cells cells.toArray e)) (.slice (some ⟨w.heap.size, 0, none⟩) n n) ar := by
      refine ⟨by rw [hesz]; exact hT.pos, ⟨e, cells, ⟨by rw [hclen, ← Arr.length_toL, har, hn, hesz], .inr ⟨w.heap.size, n, cells.toArray, by rw [← Arr.length_toL, har, hn], Nat.zero_le _, heap_alloc_new w _, by rw [← Arr.length_toL, har, hn]; exact Nat.le_refl _, by unfold maxLen; omega, by simp [hclen, hesz],
          by rw [← Arr.length_toL, har, hn, hesz, ← hclen]; simp⟩⟩,
        fun i u j c hi hj => ?_⟩, fun i u hi => by rw [har] at hi; rw [hesz]; exact hcl i u hi⟩
      rw [har] at hi
      have hil := (List.getElem?_eq_some_iff.1 hi).1
      have hixs : i < xs.length := by omega
      have hjl : j < te.size := by rw [← hcl i u hi]; exact (List.getElem?_eq_some_iff.1 hj).1
      have hra := repA_cells (hrep i xs[i] u (List.getElem?_eq_getElem hixs) hi)
      have hjs : j < xs[i].cells.size := by rw [hvs _ (List.getElem_mem hixs)]; exact hjl
      refine ⟨xs[i].cells[j], ?_, ?_⟩
      · rw [hesz]
        have := flatMap_get te.size xs i j hvs hjl
        rw [List.getElem?_eq_getElem hixs] at this
        simp only [Option.bind_some, Array.getElem?_eq_getElem hjs] at this
        exact this
      · have := hra.2 j _ c (Array.getElem?_eq_getElem hjs) hj
        exact this.mono (fun _ h => h) (fun b hb => Go.Proofs.Ytfkkigbbejhfbaa.Idl.heap_alloc_o w _ b (hS b hb))
    exact ⟨ar, cells.toArray, e, hrun, hO, hk3⟩
  · exact absurd hk2 (by simp)

theorem buildSlice_sound {E : Env} (hE : EnvOK P E) (h : FR F S own T s a w) {t n : Nat} {te : TI} (hte : elemTI E t = some te) {parts : Array (Nat × Operand)} {Kc : List V → V → Option R} {r : R}
    (hk : (shareAll s.M (parts.toList.map fun p => s.eval p.2) fun M vs =>
          ofParts te ((parts.toList.map (·.1)).zip vs) 0 fun vs => if vs.length = n ∧ n * te.size ≤ 65536 then ofL te.ek vs fun a => Kc (M ++ [V.sl true a]) (.rs M.length) else none) = some r) :
    ∃ v c w' S' own' T' M', (Instr.buildSlice t n (parts.map fun (i, x) => (i, a.eval x))).run P w = .ok v w' ∧ FR F S' own' T' { s with M := M' } a w' ∧ RTV S' w' T' M' v c ∧ Kc M' c = some r := by
  obtain ⟨S1, own1, M1, l1, f1, k1, hlen1, hrep, hk1⟩ := shareAll_sound (s := s) (parts.toList.map fun p => s.eval p.2) s.M S own (parts.toList.map fun p => a.eval p.2) _ r h (by simp)
    (fun j x c hx hc => by
      simp only [List.getElem?_map, Option.map_eq_some_iff] at hx hc
      obtain ⟨p, hp, rfl⟩ := hx
      obtain ⟨q, hq, rfl⟩ := hc
      rw [hp] at hq; cases hq
      exact h.eval _) hk
  obtain ⟨ar, cells, e, hrun, hO, hk3⟩ := build_own hE hte (by simpa using hlen1) hrep f1.slt hk1
  obtain ⟨own2, T2, f2, hr2⟩ := FR.newSlice (s := s) f1 (w' := w.alloc (.cells cells e)) (.slice (some ⟨w.heap.size, 0, none⟩) n n) ar (fun b hb => Go.Proofs.Ytfkkigbbejhfbaa.Idl.heap_alloc_o w _ b hb) (by simp) ⟨rfl, rfl, rfl⟩
    (fun b hb => by simp [Value.ownBlock] at hb; subst hb; simp) rfl hO
  exact ⟨_, _, _, S1, own2, T2, _, hrun, f2, hr2, hk3⟩

theorem plain_repA {v : Value} {c : V} (h : RTV S w T M v c) (hp : c.plain = true) : RepA S w v c := by
  cases c with
  | agg l =>
    obtain ⟨cs, h1, h2, h3⟩ := h
    refine ⟨cs, h1, h2, fun j x c hx hc => ?_⟩
    have hpc : c.plain1 = true := (List.all_eq_true.1 hp) c (List.mem_of_getElem? hc)
    have := (h3 j x c hx hc).2
    refine plain1_rep (T := T) (M := M) ?_ hpc
    cases c <;> first | exact this | simp [V.plain1] at hpc
  | _ => exact plain1_rep h hp

/-- built, and shared at once -/
theorem buildSliceS_sound {E : Env} (hE : EnvOK P E) (h : FR F S own T s a w) {t n : Nat} {te : TI} (hte : elemTI E t = some te) {parts : Array (Nat × Operand)} (hpl : (parts.all fun p => (s.eval p.2).plain) = true) {Kc : V → Option R} {r : R}
    (hk : (ofParts te ((parts.toList.map (·.1)).zip (parts.toList.map fun p => s.eval p.2)) 0 fun vs => if vs.length = n ∧ n * te.size ≤ 65536 then ofL te.ek vs fun a => Kc (.sl false a) else none) = some r) :
    ∃ v c w' S', (Instr.buildSlice t n (parts.map fun (i, x) => (i, a.eval x))).run P w = .ok v w' ∧ FR F S' own T s a w' ∧ RTV S' w' T s.M v c ∧ Kc c = some r := by
  obtain ⟨ar, cells, e, hrun, hO, hk3⟩ := build_own (S := S) hE hte (by simp) (fun j x c hx hc => by
      simp only [List.getElem?_map, Option.map_eq_some_iff] at hx hc
      obtain ⟨p, hp, rfl⟩ := hx
      obtain ⟨q, hq, rfl⟩ := hc
      rw [hp] at hq; cases hq
      have := (Array.all_eq_true_iff_forall_mem.1 hpl) p (Array.mem_toList_iff.1 (List.mem_of_getElem? hp))
      exact plain_repA (h.eval _) this) h.slt hk
  have f2 : FR F (fun b => S b ∨ b = w.heap.size) own T s a (w.alloc (.cells cells e)) := h.grow (fun b hb => Go.Proofs.Ytfkkigbbejhfbaa.Idl.heap_alloc_o w _ b hb) (by simp) ⟨rfl, rfl, rfl⟩ (fun b hb => .inl hb) (fun b hb => by
    rcases hb with hb | rfl
    · exact .inl hb
    · exact .inr ⟨Nat.le_refl _, by simp⟩)
  have hr := (hO.mono (S' := fun b => S b ∨ b = w.heap.size) (w' := w.alloc (.cells cells e)) (fun b hb => .inl hb) (fun _ _ => rfl) (fun _ _ => rfl)).share (fun b hb => by simp [Value.ownBlock] at hb; exact .inr hb.symm)
  exact ⟨_, _, _, _, hrun, f2, .of_rep hr, hk3⟩
end
end Go.Proofs.Ytfkkigbbejhfbaa.Idl
/- make, and the operations on places put together. -/
namespace Go.Proofs.Ytfkkigbbejhfbaa.Idl
open Go
variable {P : Program}
section
variable {F : Fx} {S S' : Nat → Prop} {own own' : Nat → Option Nat} {T T' : Nat → Value} {s : St} {a : Act} {w w' : World} {M : List V} {R : Type}

theorem wrap_id (n : Int) (h0 : 0 ≤ n) (h1 : n ≤ 17179869184) : IntKind.i64.wrap n = n := by
  rw [IntKind.wrap_i64]
  omega

theorem run_makeSlice_ok {t e : Nat} {te : TI} (hu : P.underlying t = some (.slice e)) (hT : TyOK P e te) {z : Value} {i : TypeInfo} (hi : P.info? e = some i) (hz : i.zero = some z) (_hzc : z.cells.size = te.size) (kl kc : IntKind) (n m : Nat) (hnm : n ≤ m) (hm : m ≤ bound) (hby : te.bytes ≤ 4096) :
    (Instr.makeSlice t (.int kl n) (.int kc m)).run P w = .ok (.slice (some ⟨w.heap.size, 0, none⟩) n m) (w.alloc (.cells (madeCells z.cells (m * te.size)) e)) := by
  have hmb : m ≤ 17179869184 := hm
  obtain ⟨i', z', hi', hsz, hbb, _⟩ := hT.info
  rw [hi] at hi'; cases hi'
  have w1 := wrap_id (n : Int) (by omega) (by omega)
  have w2 := wrap_id (m : Int) (by omega) (by omega)
  have hbytes : ¬ ((281474976710656 : Int) < (i.bytes : Int) * (m : Int)) := by
    have h1 : i.bytes * m ≤ 4096 * 17179869184 := Nat.mul_le_mul (by omega) hmb
    have h2 : ((i.bytes * m : Nat) : Int) ≤ 70368744177664 := by omega
    rw [Int.natCast_mul] at h2
    omega
  have hnn : ¬ ((n : Int) < 0) := by omega
  have hmm : ¬ ((m : Int) < 0) := by omega
  have hle : ¬ ((m : Int) < (n : Int)) := by omega
  by_cases h0 : m * te.size = 0
  · simp [Instr.makeSlice, run_underlying hu, asInt, asIntOf, typeInfo, hi, w1, w2, hbytes, hnn, hmm, hle, hT.sizeOf, h0, newRow, madeCells, show Array.range 0 = #[] from rfl]
  · simp [Instr.makeSlice, run_underlying hu, asInt, asIntOf, typeInfo, hi, hz, w1, w2, hbytes, hnn, hmm, hle, hT.sizeOf, h0, newRow, madeCells, zeroValue]

theorem zeros_eq {te : TI} {n : Nat} {K : Arr V → Option R} {r : R} (h : zeros te n K = some r) : ∃ ar c0, K ar = some r ∧ ar.len = n ∧ ar.esz = te.ek.nil.esz ∧ (∀ k l, te.ek ≠ .vals k ∨ l = te) ∧ te.zero = [c0] ∧ (∀ x, ZeroL x c0 → ∀ (i : Nat) u, ar.toL[i]? = some u → u.cells = [u] ∧ ∀ S w, RepL S w x u) := by
  unfold zeros at h
  split at h
  · rename_i k k' he hz
    split at h
    · rename_i hk
      subst hk
      refine ⟨_, _, h, by simp [Arr.len], by rw [he]; rfl, fun k l => .inl (by rw [he]; simp), hz, fun x hx i u hu => ?_⟩
      simp only [Arr.toL, List.map_replicate, List.getElem?_replicate] at hu
      split at hu
      · cases hu
        obtain ⟨_, rfl⟩ := hx
        exact ⟨rfl, fun _ _ => .int ..⟩
      · exact absurd hu (by simp)
    · exact absurd h (by simp)
  · rename_i he hz
    refine ⟨_, _, h, by simp [Arr.len], by rw [he]; rfl, fun k l => .inl (by rw [he]; simp), hz, fun x hx i u hu => ?_⟩
    simp only [Arr.toL, List.map_replicate, List.getElem?_replicate] at hu
    split at hu
    · cases hu
      obtain ⟨_, rfl⟩ := hx
      exact ⟨rfl, fun _ _ => .bool ..⟩
    · exact absurd hu (by simp)
  · rename_i sb he hz
    split at h
    · rename_i h0
      refine ⟨_, _, h, by simp [Arr.len], by rw [he]; rfl, fun k l => .inl (by rw [he]; simp), hz, fun x hx i u hu => ?_⟩
      simp only [Arr.toL, List.map_replicate, List.getElem?_replicate] at hu
      split at hu
      · cases hu
        have hx : x = .string sb := hx
        subst hx
        have : sb = .empty := by
          have h00 : sb.data.size = 0 := h0
          cases sb with
          | mk d =>
            have : d = #[] := Array.eq_empty_of_size_eq_zero h00
            subst this; rfl
        subst this
        exact ⟨rfl, fun _ _ => .str ..⟩
      · exact absurd hu (by simp)
    · exact absurd h (by simp)
  · exact absurd h (by simp)

theorem makeSlice_sound {E : Env} (hE : EnvOK P E) (h : FR F S own T s a w) {t : Nat} {te : TI} (hte : elemTI E t = some te) {vl vc : Value} {kl kc : IntKind} {n m : Int} (hl : RTV S w T s.M vl (.int kl n)) (hc : RTV S w T s.M vc (.int kc m)) {Kc : List V → V → Option R} {r : R}
    (hb : 0 ≤ n ∧ n ≤ m ∧ m ≤ bound ∧ te.bytes ≤ 4096) (hk : (zeros te n.toNat fun ar => Kc (s.M ++ [V.sl true ar]) (.rs s.M.length)) = some r) :
    ∃ v c w' own' T' M', (Instr.makeSlice t vl vc).run P w = .ok v w' ∧ FR F S own' T' { s with M := M' } a w' ∧ RTV S w' T' M' v c ∧ Kc M' c = some r := by
  obtain ⟨e, hu, _, hT⟩ := elemTI_ok hE hte
  obtain ⟨i, z, hi, hsz, hbb, hzz, hzc, hzl, hzr⟩ := hT.info
  obtain ⟨h0, h1, h2, h3⟩ := hb
  have e1 := rtv_int hl
  have e2 := rtv_int hc
  subst e1 e2
  obtain ⟨n', rfl⟩ := Int.eq_ofNat_of_zero_le h0
  obtain ⟨m', rfl⟩ := Int.eq_ofNat_of_zero_le (by omega : 0 ≤ m)
  simp only [Int.toNat_natCast] at hk
  obtain ⟨ar, c0, hk, hlen, hesz, _, hz1, hrep⟩ := zeros_eq hk
  have hsize1 : te.size = 1 := by rw [← hzl, hz1]; rfl
  have hez : ar.esz = 1 := by rw [hesz, hT.esz, hsize1]
  obtain ⟨x0, hx0⟩ : ∃ x, z.cells = #[x] := by
    have : z.cells.size = 1 := by rw [hzc, hsize1]
    exact Array.size_eq_one_iff.1 this
  have hm34 : m' ≤ 17179869184 := by
    have := h2
    unfold bound at this
    omega
  have hZ : ZeroL x0 c0 := hzr 0 x0 c0 (by rw [hx0]; rfl) (by rw [hz1]; rfl)
  have hrun := run_makeSlice_ok (P := P) (w := w) hu hT hi hzz hzc kl kc n' m' (by omega) (by omega) h3
  have hmade : ∀ k, k < m' → (madeCells z.cells (m' * te.size)).toList[k]? = some x0 := by
    intro k hk
    rw [hsize1, Nat.mul_one]
    simp [madeCells, hx0, hk, Nat.mod_one]
  have hO : OwnS S (w.alloc (.cells (madeCells z.cells (m' * te.size)) e)) (.slice (some ⟨w.heap.size, 0, none⟩) n' m') ar := by
    refine ⟨by omega, ⟨e, (madeCells z.cells (m' * te.size)).toList.take n', ⟨by simp [size_madeCells, hsize1, hez, hlen]; omega, .inr ⟨w.heap.size, m', _, by rw [hlen], Nat.zero_le _, heap_alloc_new w _, by omega, by unfold maxLen; omega, by rw [size_madeCells, hsize1, hez], by rw [hlen, hez, Nat.mul_one]⟩⟩, fun k u j c hku hj => ?_⟩, fun k u hku => ?_⟩
    · obtain ⟨hcu, hru⟩ := hrep x0 hZ k u hku
      rw [hcu] at hj
      have hkl : k < n' := by rw [← hlen, ← Arr.length_toL]; exact (List.getElem?_eq_some_iff.1 hku).1
      cases j with
      | zero =>
        simp at hj; subst hj
        refine ⟨x0, ?_, hru _ _⟩
        rw [hez, Nat.mul_one, Nat.add_zero, List.getElem?_take, if_pos hkl]
        exact hmade k (by omega)
      | succ j => simp at hj
    · rw [(hrep x0 hZ k u hku).1, hez]; rfl
  obtain ⟨own2, T2, f2, hr2⟩ := FR.newSlice (s := s) (M := s.M) h (w' := w.alloc (.cells (madeCells z.cells (m' * te.size)) e)) (.slice (some ⟨w.heap.size, 0, none⟩) n' m') ar (fun b hb => Go.Proofs.Ytfkkigbbejhfbaa.Idl.heap_alloc_o w _ b hb) (by simp) ⟨rfl, rfl, rfl⟩
    (fun b hb => by simp [Value.ownBlock] at hb; subst hb; simp) rfl hO
  exact ⟨_, _, _, own2, T2, _, hrun, f2, hr2, hk⟩
end
end Go.Proofs.Ytfkkigbbejhfbaa.Idl
/- The operations on places but calls of functions. -/
namespace Go.Proofs.Ytfkkigbbejhfbaa.Idl
open Go
variable {P : Program}
section
variable {F : Fx} {S S' : Nat → Prop} {own own' : Nat → Option Nat} {T T' : Nat → Value} {s : St} {a : Act} {w w' : World} {M : List V} {R : Type}
variable {rd : Option Nat} {nz : Nat}

set_option maxHeartbeats 4000000 in
theorem iopH_value {E : Env} {cf : CallF} (hE : EnvOK P E) (hF : FR F S own T s a w) (o : Oper) {Kc : St → Option R} {r : R} {Q : Exit → Act → World → Prop}
    (hnc : ∀ c, o.op = .call c → ∃ b, c.callee = .builtin b) (h : iopH E cf s o Kc = some r) : o.wpIn (Zr rd) nz P a w (HPost F Kc r) Q := by
  obtain ⟨dst, op, ty, pos, after, guard⟩ := o
  have fin : ∀ {x : Sem Value} {v : Value} {w' : World} {S' : Nat → Prop} {own' : Nat → Option Nat} {T' : Nat → Value} {M' : List V} {c : V} {op : Op}, execOp a.eval ⟨dst, op, ty, pos, after, guard⟩ = (do pure (Next.value (← x))) → x.run P w = .ok v w' →
      FR F S' own' T' { s with M := M' } a w' → RTV S' w' T' M' v c → Kc ({ s with M := M' }.put dst c) = some r → (⟨dst, op, ty, pos, after, guard⟩ : Oper).wpIn (Zr rd) nz P a w (HPost F Kc r) Q := by
    intro x v w' S' own' T' M' c op hx hr f hv hk
    exact wp_value (v := v) (w' := w') (by rw [hx, Sem.run_bind, hr]; rfl) ⟨S', own', T', _, f.put' dst hv, hk⟩
  have finu : ∀ {x : Sem Unit} {w' : World} {S' : Nat → Prop} {own' : Nat → Option Nat} {T' : Nat → Value} {M' : List V} {op : Op}, execOp a.eval ⟨dst, op, ty, pos, after, guard⟩ = (do x; pure Next.skip) → x.run P w = .ok () w' →
      FR F S' own' T' { s with M := M' } a w' → Kc ({ s with M := M' }.put dst .dead) = some r → (⟨dst, op, ty, pos, after, guard⟩ : Oper).wpIn (Zr rd) nz P a w (HPost F Kc r) Q := by
    intro x w' S' own' T' M' op hx hr f hk
    exact wp_skip' (w' := w') (by rw [hx, Sem.run_bind, hr]; rfl) ⟨S', own', T', _, FR.put (s := { s with M := M' }) (c := .dead) f dst trivial, hk⟩
  cases op
  case assign x =>
    simp only [iopH_eq, iopP] at h
    obtain ⟨own1, T1, M1, c1, f1, L1, hv, _, _, _, hk⟩ := typed_sound hE hF (hF.eval x) h
    exact wp_value (v := a.eval x) (w' := w) rfl ⟨S, own1, T1, _, f1.put' dst hv, hk⟩
  case alloc t =>
    simp only [iopH_eq, iopP] at h
    split at h
    · rename_i ti hti
      have hT := hE.ty t ti hti
      obtain ⟨i, z, hi, hsz, hbb, hzz, hzc, hzl, hzr⟩ := hT.info
      obtain ⟨own1, T1, f1, L1, _, hlen, hr⟩ := layZero_sound ti.zero s.M own T z.cells.toList (s := s) hF (by simp [hzc, hzl]) (fun j x c hx hc => hzr j x c (by rw [← Array.getElem?_toList]; exact hx) hc)
      obtain ⟨own2, T2, f2, hv⟩ := FR.newObj f1 z.cells (layZero s.M ti.zero).2 t (by rw [hlen, hzc, hzl]) (fun j x c hx hc => hr j x c (by rw [Array.getElem?_toList]; exact hx) hc)
      refine fin (x := Instr.alloc t true (.tuple #[])) rfl ?_ f2 hv h
      simp [Instr.alloc, zeroValue, typeInfo, hi, hzz, newVar, newRow]
    · exact absurd h (by simp)
  case box t x =>
    simp only [iopH_eq, iopP] at h
    split at h
    · rename_i ti hti
      obtain ⟨own1, T1, M1, c1, f1, L1, hv, _, _, _, hk⟩ := typed_sound hE hF (hF.eval x) h
      split at hk
      · rename_i hc
        obtain ⟨hcl, hcr⟩ := cells_of hv hc.2
        obtain ⟨own2, T2, f2, hv2⟩ := FR.newObj f1 (a.eval x).cells c1.cells t hcl hcr
        refine fin (x := Instr.box t (a.eval x)) rfl ?_ f2 hv2 hk
        simp [Instr.box, newVar, newRow]
      · exact absurd hk (by simp)
    · exact absurd h (by simp)
  case buildSlice t n parts =>
    simp only [iopH_eq, iopP] at h
    split at h
    · rename_i te hte
      obtain ⟨v, c, w', S', own', T', M', hrun, f, hv, hk⟩ := buildSlice_sound hE hF hte (Kc := fun M v => Kc ({ s with M := M }.put dst v)) h
      exact fin (x := Instr.buildSlice t n (parts.map fun (i, x) => (i, a.eval x))) rfl hrun f hv hk
    · exact absurd h (by simp)
  case makeSlice t l c =>
    simp only [iopH_eq, iopP] at h
    split at h
    · rename_i te kl n kc m hte hel hec
      split at h
      · rename_i hb
        obtain ⟨v, c', w', own', T', M', hrun, f, hv, hk⟩ := makeSlice_sound hE hF hte (by rw [← hel]; exact hF.eval l) (by rw [← hec]; exact hF.eval c) (Kc := fun M v => Kc ({ s with M := M }.put dst v)) hb h
        exact fin (x := Instr.makeSlice t (a.eval l) (a.eval c)) rfl hrun f hv hk
      · exact absurd h (by simp)
    · exact absurd h (by simp)
  case slice t x lo hi mx =>
    simp only [iopH_eq, iopP] at h
    split at h
    · rename_i id hev
      split at h
      · rename_i o ar hpl
        have hlt := pl_lt hpl (by simp)
        have hx := hF.eval x
        rw [hev] at hx
        have hsl : ∀ o' ar', V.sl false ar = .sl o' ar' → ∃ o'' a', pl s.M id = .sl o'' a' ∧ a'.esz = ar'.esz ∧ a'.len = ar'.len := by
          intro o' ar' e
          cases e
          exact ⟨o, ar, hpl, rfl, rfl⟩
        have hP := hF.place hpl (by simp)
        have hrep : RepL (plus S True own id) w (T id) (.sl false ar) := by
          cases o with
          | false => exact RepL.mono (fun b hb => .inl hb) (fun _ _ => rfl) hP
          | true => exact (hP.1.mono (S' := plus S True own id) (fun b hb => .inl hb) (fun _ _ => rfl) (fun _ _ => rfl)).share (fun b hb => .inr ⟨trivial, hP.2 b hb⟩)
        have f1 := hF.drop id True (.sl false ar) hlt hsl hrep
        have k1 := hF.drop_sunk id True (.sl false ar) hsl (by simp)
        have opt : ∀ y : Option Operand, OptR (plus S True own id) w T (s.M.set id (.sl false ar)) (y.map a.eval) (y.map s.eval) := by
          intro y
          cases y with
          | none => trivial
          | some y => exact (hF.eval y).later k1.later
        obtain ⟨v, c, hr, hv, hk⟩ := sliceV_sound hE f1 (hx.later k1.later) (opt lo) (opt hi) (opt mx) h (fun id' hid ar' hp => by
          cases hid
          rw [pl_set, if_pos ⟨rfl, hlt⟩] at hp
          cases hp)
        exact fin (x := Instr.sliceAt t (a.eval x) (lo.map a.eval) (hi.map a.eval) (mx.map a.eval)) rfl hr f1 hv hk
      · exact absurd h (by simp)
    · exact absurd h (by simp)
  case makeFunc f first cap =>
    simp only [iopH_eq, iopP] at h
    split at h
    · rename_i f
      split at h
      · rename_i hfe
        obtain ⟨S1, own1, M1, l1, f1, k1, hlen1, hrep, hk⟩ := shareAll_sound (s := s) (cap.toList.map s.eval) s.M S own (cap.toList.map a.eval) _ r hF (by simp)
          (fun j x c hx hc => by
            simp only [List.getElem?_map, Option.map_eq_some_iff] at hx hc
            obtain ⟨p, hp, rfl⟩ := hx
            obtain ⟨q, hq, rfl⟩ := hc
            rw [hp] at hq; cases hq
            exact hF.eval _) h
        split at hk
        · rename_i hpl
          have hf0 : first = #[] := by simpa using hfe
          subst hf0
          have hfn := RepL.fn (S := S1) (w := w) f l1 (cap.toList.map a.eval) (by simpa using hlen1.symm) (fun j x c hx hc => by
            have hp : c.plain1 = true := (List.all_eq_true.1 hpl) c (List.mem_of_getElem? hc)
            have := hrep j x c hx hc
            cases c <;> first | exact this | simp [V.plain1] at hp)
          have e : (cap.toList.map a.eval).toArray = cap.map a.eval := by apply Array.ext'; simp
          rw [e] at hfn
          exact wp_value (v := .func (.func f) #[] (cap.map a.eval)) (w' := w) (by simp [execOp, Instr.makeFunc]) ⟨S1, own1, T, _, f1.put' dst (.of_rep hfn), hk⟩
        · exact absurd hk (by simp)
      · exact absurd h (by simp)
    · exact absurd h (by simp)
  case store t x y =>
    simp only [iopH_eq, iopP] at h
    split at h
    · rename_i ti hti
      have hT := hE.ty t ti hti
      obtain ⟨own1, T1, M1, c1, f1, L1, hv, _, _, _, hk⟩ := typed_sound hE hF (hF.eval y) h
      have hx := (hF.eval x).later L1
      split at hk
      · rename_i hcl
        split at hk
        · rename_i id off hev
          rw [hev] at hx
          obtain ⟨hlt, b, hTid, hax⟩ := rtv_pr hx
          split at hk
          · rename_i l hpl
            obtain ⟨b', cs, e, q1, q2, q3, q4, q5⟩ := f1.place hpl (by simp)
            have q1' : T1 id = Value.pointer (some ⟨b', 0, none⟩) := q1
            rw [hTid] at q1'
            cases q1'
            unfold setCells at hk
            split at hk
            · rename_i hc
              obtain ⟨hok, hle⟩ := hc
              obtain ⟨hsz, hcr⟩ := cells_of hv hok
              have hone : ∀ u ∈ (a.eval y).cells.toList, u.oneCell' = true := by
                intro u hu
                obtain ⟨j, hj, rfl⟩ := List.getElem_of_mem hu
                have hj' : j < (a.eval y).cells.size := by simpa using hj
                have hjl : j < c1.cells.length := by omega
                obtain ⟨h1, h2⟩ := hcr j _ _ (Array.getElem?_eq_getElem hj') (List.getElem?_eq_getElem hjl)
                simp only [Array.getElem_toList]
                exact rt_one h2 (by intro e; rw [e] at h1; simp [okCell] at h1) (by intro id i off e; rw [e] at h1; simp [okCell] at h1)
              have hrun := run_storeAt_ok (P := P) hT b off (a.eval y) (by rw [hsz, hcl]) q2 (by rw [hsz, q3]; exact hle) hone
              have f2 := FR.storeObj f1 hpl hTid q2 q3 q4 q5 off (a.eval y).cells.toList c1.cells (by simpa using hsz) hle (fun j x c hx hc => hcr j x c (by rw [← Array.getElem?_toList]; exact hx) hc)
              exact finu (x := Instr.storeAt t (a.eval x) (a.eval y)) rfl (by rw [hax]; exact hrun) f2 hk
            · exact absurd hk (by simp)
          · exact absurd hk (by simp)
        · rename_i id i off hev
          rw [hev] at hx
          obtain ⟨hlt, hrt⟩ := (show RT S w T1 M1 (a.eval x) (.er id i off) from hx)
          split at hk
          · rename_i ar hpl
            split at hk
            · rename_i hs1
              obtain ⟨S2, own2, M2, c2, f2, k2, hra, hk⟩ := share_sound f1 hv hk
              split at hk
              · rename_i hpl1
                obtain ⟨ar', hk', hoff, he1, he2, hl2, ht2⟩ := set_eq hk
                clear hk
                subst hoff
                split at hk'
                · rename_i ar2 hpl2
                  obtain ⟨hil, b, len, cap, hTid, hax⟩ := hrt true ar hpl
                  have hpl3 := k2.keep id ar2 hpl2
                  rw [hpl] at hpl3
                  cases hpl3
                  have hrl : RepL S2 w (a.eval y) c2 := by
                    cases c2 <;> first | exact hra | simp [V.plain1] at hpl1
                  have f3 := FR.storeElem f2 hpl2 hTid hrl he1 he2 hl2 ht2
                  have hcell1 := hrl.cells.1
                  have hb0 : ∃ cur e, w.heap[b]? = some (.cells cur e (0, 0)) ∧ i + 1 ≤ cur.size := by
                    obtain ⟨⟨_, ⟨e, xs, hown, _⟩, _⟩, _⟩ := f2.place hpl2 (by simp)
                    rcases hown.2 with ⟨h0, _⟩ | ⟨g, cap', cur, h0, _, hg, hnc, _, hcs, _⟩
                    · rw [hTid] at h0; cases h0
                    · rw [hTid] at h0
                      cases h0
                      exact ⟨cur, e, hg, by rw [hcs, he1]; omega⟩
                  obtain ⟨cur, e, hg, hsz⟩ := hb0
                  have hrun := run_storeAt_ok (P := P) hT b (i * ar.esz + 0) (a.eval y) (by rw [hcell1, hs1]; rfl) hg (by rw [hcell1, he1]; simpa using hsz) (by rw [hcell1]; simpa using hrl.one)
                  rw [he1, hcell1] at hrun
                  simp only [Nat.mul_one, Nat.add_zero] at hrun
                  rw [he1] at hax
                  simp only [Nat.mul_one, Nat.add_zero] at hax
                  exact finu (x := Instr.storeAt t (a.eval x) (a.eval y)) rfl (by rw [hax]; exact hrun) f3 hk'
                · exact absurd hk' (by simp)
              · exact absurd hk (by simp)
            · exact absurd hk (by simp)
          · exact absurd hk (by simp)
        · exact absurd hk (by simp)
      · exact absurd hk (by simp)
    · exact absurd h (by simp)
  case call c =>
    simp only [iopH_eq, iopP] at h
    obtain ⟨b, hb⟩ := hnc c rfl
    obtain ⟨callee, args, argTypes⟩ := c
    try simp only at hb
    subst hb
    try simp only at h
    split at h
    · rename_i x y hargs
      have hargs' : args = #[x, y] := by apply Array.ext'; simpa using hargs
      subst hargs'
      split at h
      · rename_i t u hts
        have hts' : argTypes = #[t, u] := by apply Array.ext'; simpa using hts
        subst hts'
        obtain ⟨v, w', own', T', M', c, hr, f, hv, hk⟩ := appendV_sound (P := P) (ty := ty) hE hF (hF.eval x) (hF.eval y) (Kc := fun M v => Kc ({ s with M := M }.put dst v)) h
        exact wp_value (v := v) (w' := w') (by simp [execOp, resolve, invoke, builtin, hr]) ⟨S, own', T', _, f.put' dst hv, hk⟩
      · exact absurd h (by simp)
    · exact absurd h (by simp)
  all_goals simp [iopH_eq, iopP] at h
end
end Go.Proofs.Ytfkkigbbejhfbaa.Idl
/- Values that own their memory; taken out of places, laid into places. -/
namespace Go.Proofs.Ytfkkigbbejhfbaa.Idl
open Go
variable {P : Program}

def OwnL (S : Nat → Prop) (w : World) (v : Value) (fp : List Nat) : V → Prop
  | .sl true a => OwnS S w v a ∧ fp = v.ownBlock.toList
  | c => RepL S w v c ∧ fp = []
def okP : V → Bool
  | .sl true _ => true
  | c => okCell c
theorem okP_ok {c : V} (h : okCell c = true) : okP c = true := by
  cases c with
  | sl o a => cases o <;> first | rfl | exact h
  | _ => exact h
def OwnV (S : Nat → Prop) (w : World) (v : Value) (fp : List Nat) : V → Prop
  | .pt l => ∃ (b : Nat) (cs : List Value) (e : TypeId) (fps : List (List Nat)), v = .pointer (some ⟨b, 0, none⟩) ∧ w.heap[b]? = some (.cells cs.toArray e (0, 0)) ∧ cs.length = l.length ∧ fps.length = l.length ∧
      (∀ (j : Nat) x f c, cs[j]? = some x → fps[j]? = some f → l[j]? = some c → OwnL S w x f c) ∧ fp = b :: fps.flatten ∧ ∀ (j : Nat) c, l[j]? = some c → okP c = true
  | .agg l => ∃ (cs : List Value) (fps : List (List Nat)), v = .agg cs.toArray ∧ cs.length = l.length ∧ fps.length = l.length ∧
      (∀ (j : Nat) x f c, cs[j]? = some x → fps[j]? = some f → l[j]? = some c → OwnL S w x f c) ∧ fp = fps.flatten
  | c => OwnL S w v fp c
def OwnT (S : Nat → Prop) (w : World) (v : Value) (fp : List Nat) : V → Prop
  | .tup l => ∃ (cs : List Value) (fps : List (List Nat)), v = .tuple cs.toArray ∧ cs.length = l.length ∧ fps.length = l.length ∧
      (∀ (j : Nat) x f c, cs[j]? = some x → fps[j]? = some f → l[j]? = some c → OwnV S w x f c) ∧ fp = fps.flatten
  | c => OwnV S w v fp c
/-- a list of them -/
def OwnVs (S : Nat → Prop) (w : World) (vs : List Value) (fps : List (List Nat)) (l : List V) : Prop :=
  vs.length = l.length ∧ fps.length = l.length ∧ ∀ (j : Nat) x f c, vs[j]? = some x → fps[j]? = some f → l[j]? = some c → OwnV S w x f c

section
variable {F : Fx} {S S' : Nat → Prop} {own own' : Nat → Option Nat} {T T' : Nat → Value} {s : St} {a : Act} {w w' : World} {M M' : List V} {R : Type}

theorem OwnL.mono (hS : ∀ b, S b → S' b) (hw : ∀ b, S b → w'.heap[b]? = w.heap[b]?) {v : Value} {fp : List Nat} {c : V} (hf : ∀ b, b ∈ fp → w'.heap[b]? = w.heap[b]?) (h : OwnL S w v fp c) : OwnL S' w' v fp c := by
  have sh : (RepL S w v c ∧ fp = []) → RepL S' w' v c ∧ fp = [] := fun h => ⟨h.1.mono hS hw, h.2⟩
  cases c with
  | sl o ar =>
    cases o with
    | true => exact ⟨h.1.mono hS hw (fun b hb => hf b (by rw [h.2, hb]; simp)), h.2⟩
    | false => exact sh h
  | _ => exact sh h
theorem ownv_eq {v : Value} {fp : List Nat} {c : V} (h1 : ∀ l, c ≠ .pt l) (h2 : ∀ l, c ≠ .agg l) : OwnV S w v fp c = OwnL S w v fp c := by
  cases c with
  | pt l => exact absurd rfl (h1 l)
  | agg l => exact absurd rfl (h2 l)
  | _ => rfl
theorem ownt_eq {v : Value} {fp : List Nat} {c : V} (h1 : ∀ l, c ≠ .tup l) : OwnT S w v fp c = OwnV S w v fp c := by
  cases c with
  | tup l => exact absurd rfl (h1 l)
  | _ => rfl
theorem OwnV.mono (hS : ∀ b, S b → S' b) (hw : ∀ b, S b → w'.heap[b]? = w.heap[b]?) {v : Value} {fp : List Nat} {c : V} (hf : ∀ b, b ∈ fp → w'.heap[b]? = w.heap[b]?) (h : OwnV S w v fp c) : OwnV S' w' v fp c := by
  cases c with
  | pt l =>
    obtain ⟨b, cs, e, fps, h1, h2, h3, h4, h5, h6, h7⟩ := h
    refine ⟨b, cs, e, fps, h1, by rw [hf b (by rw [h6]; simp)]; exact h2, h3, h4, fun j x f c hx hff hc => (h5 j x f c hx hff hc).mono hS hw (fun b hb => hf b ?_), h6, h7⟩
    rw [h6]
    exact List.mem_cons_of_mem _ (List.mem_flatten.2 ⟨f, List.mem_of_getElem? hff, hb⟩)
  | agg l =>
    obtain ⟨cs, fps, h1, h3, h4, h5, h6⟩ := h
    refine ⟨cs, fps, h1, h3, h4, fun j x f c hx hff hc => (h5 j x f c hx hff hc).mono hS hw (fun b hb => hf b ?_), h6⟩
    rw [h6]
    exact List.mem_flatten.2 ⟨f, List.mem_of_getElem? hff, hb⟩
  | _ =>
    rw [ownv_eq (by simp) (by simp)] at h ⊢
    exact OwnL.mono hS hw hf h

/-- free blocks of a frame -/
def Free (F : Fx) (S : Nat → Prop) (own : Nat → Option Nat) (w : World) (fp : List Nat) : Prop := fp.Nodup ∧ ∀ b, b ∈ fp → b < w.heap.size ∧ ¬ S b ∧ ¬ F.K b ∧ own b = none

/-! ### taking -/
structure Took (F : Fx) (S : Nat → Prop) (own own' : Nat → Option Nat) (w : World) (T : Nat → Value) (M M' : List V) (fp : List Nat) : Prop where
  later : Later S S w w T T M M'
  len : M'.length = M.length
  free : Free F S own' w fp
  was : ∀ b, b ∈ fp → own b ≠ none
  hown : ∀ b id, own' b = some id → own b = some id
  keep : ∀ id, pl M' id ≠ .dead → pl M' id = pl M id

theorem Took.nil : Took F S own own w T M M [] := ⟨.refl, rfl, ⟨by simp, fun b hb => by simp at hb⟩, fun b hb => by simp at hb, fun _ _ h => h, fun _ _ => rfl⟩
theorem Took.trans {o1 o2 o3 : Nat → Option Nat} {M1 M2 M3 : List V} {f1 f2 : List Nat} (h : Took F S o1 o2 w T M1 M2 f1) (k : Took F S o2 o3 w T M2 M3 f2) : Took F S o1 o3 w T M1 M3 (f1 ++ f2) := by
  refine ⟨h.later.trans k.later, k.len.trans h.len, ⟨List.nodup_append.2 ⟨h.free.1, k.free.1, fun b hb b' hb' e => ?_⟩, fun b hb => ?_⟩, fun b hb => ?_, fun b id hb => h.hown b id (k.hown b id hb), fun id hid => by
    have e := k.keep id hid
    rw [e] at hid ⊢
    exact h.keep id hid⟩
  · subst e
    exact k.was b hb' (h.free.2 b hb).2.2.2
  · rcases List.mem_append.1 hb with hb | hb
    · obtain ⟨h1, h2, h3, h4⟩ := h.free.2 b hb
      refine ⟨h1, h2, h3, ?_⟩
      cases e : o3 b with
      | none => rfl
      | some id => have := k.hown b id e; rw [h4] at this; cases this
    · exact k.free.2 b hb
  · rcases List.mem_append.1 hb with hb | hb
    · exact h.was b hb
    · intro e
      have := k.was b hb
      cases e2 : o2 b with
      | none => exact this e2
      | some id => have := h.hown b id e2; rw [e] at this; cases this

theorem FR.kill (h : FR F S own T { s with M := M } a w) (id : Nat) (hid : id < M.length) : FR F S (without own id) T { s with M := M.set id .dead } a w := by
  have hS0 : plus S False own id = S := funext fun b => propext ⟨fun hb => by rcases hb with hb | ⟨hf, _⟩; exact hb; exact hf.elim, fun hb => .inl hb⟩
  have := FR.drop (s := { s with M := M }) h id False .dead hid (fun _ _ e => by cases e) trivial
  rw [hS0] at this
  exact this
theorem FR.kill_later (id : Nat) : Later S S w w T T M (M.set id .dead) := ⟨fun _ h => h, fun _ _ => rfl, fun _ _ => rfl, by simp, fun j o ar _ hp => by
  rw [pl_set] at hp
  split at hp
  · cases hp
  · exact ⟨o, ar, hp, rfl, rfl⟩⟩
theorem FR.kill_took (h : FR F S own T { s with M := M } a w) (id : Nat) (fp : List Nat) (hn : fp.Nodup) (hfp : ∀ b, b ∈ fp → own b = some id) : Took F S own (without own id) w T M (M.set id .dead) fp :=
  ⟨FR.kill_later id, by simp, ⟨hn, fun b hb => by
    obtain ⟨h1, h2, h3, _⟩ := h.own b id (hfp b hb)
    exact ⟨h1, h2, h3, by simp [without, hfp b hb]⟩⟩, fun b hb => by rw [hfp b hb]; simp, fun b j hb => without_own hb, fun j hj => by
    rw [pl_set] at hj ⊢
    split at hj
    · exact absurd rfl hj
    · rename_i hne; rw [if_neg hne]⟩

theorem take1_sound (h : FR F S own T { s with M := M } a w) {v : Value} {c : V} (hrt : RT S w T M v c) {Kc : List V → V → Option R} {r : R} (hk : take1 M c Kc = some r) :
    ∃ own' M' c' fp, FR F S own' T { s with M := M' } a w ∧ Took F S own own' w T M M' fp ∧ OwnL S w v fp c' ∧ (okCell c = true → okP c' = true) ∧ Kc M' c' = some r := by
  unfold take1 at hk
  split at hk
  · rename_i id
    obtain ⟨hlt, rfl, _⟩ := hrt
    split at hk
    · rename_i o ar hpl
      have hP := FR.place (s := { s with M := M }) h hpl (by simp)
      cases o with
      | true =>
        refine ⟨_, _, .sl true ar, (T id).ownBlock.toList, h.kill id hlt, h.kill_took id _ (by cases (T id).ownBlock <;> simp) (fun b hb => hP.2 b ?_), ⟨hP.1, rfl⟩, fun _ => rfl, hk⟩
        cases e : (T id).ownBlock with
        | none => rw [e] at hb; simp at hb
        | some b' => rw [e] at hb; simp at hb; rw [hb]
      | false => exact ⟨_, _, .sl false ar, [], h.kill id hlt, h.kill_took id _ (by simp) (fun b hb => by simp at hb), ⟨hP, rfl⟩, fun _ => rfl, hk⟩
    · exact absurd hk (by simp)
  all_goals first | exact absurd hk (by simp) | skip
  rename_i n1 n2 n3 n4 n5 n6 n7 n8 n9
  refine ⟨own, M, c, [], h, .nil, ?_, okP_ok, hk⟩
  have hr := hrt.plain_of (fun e => n9 e) (fun id e => n1 id e) (fun id off e => n3 id off e) (fun id i off e => n4 id i off e)
  cases c with
  | sl o ar =>
    cases o with
    | true => exact absurd rfl (n2 ar)
    | false => exact ⟨hr, rfl⟩
  | _ => exact ⟨hr, rfl⟩

theorem takeL_sound : ∀ (l : List V) (M : List V) (own : Nat → Option Nat) (xs : List Value) (Kc : List V → List V → Option R) (r : R), FR F S own T { s with M := M } a w → xs.length = l.length →
    (∀ (j : Nat) x c, xs[j]? = some x → l[j]? = some c → RT S w T M x c) → takeL M l Kc = some r →
    ∃ (own' : Nat → Option Nat) (M' l' : List V) (fps : List (List Nat)), FR F S own' T { s with M := M' } a w ∧ Took F S own own' w T M M' fps.flatten ∧ l'.length = l.length ∧ fps.length = l.length ∧ (∀ (j : Nat) x f c, xs[j]? = some x → fps[j]? = some f → l'[j]? = some c → OwnL S w x f c) ∧ (∀ (j : Nat) c c', l[j]? = some c → l'[j]? = some c' → okCell c = true → okP c' = true) ∧ Kc M' l' = some r
  | [], M, own, xs, Kc, r, h, _, _, hk => ⟨own, M, [], [], h, .nil, rfl, rfl, fun j x f c _ hf => by simp at hf, fun j c c' hc => by simp at hc, hk⟩
  | c :: l, M, own, [], Kc, r, h, hl, _, hk => by simp at hl
  | c :: l, M, own, x :: xs, Kc, r, h, hl, hrt, hk => by
    simp only [takeL] at hk
    obtain ⟨own1, M1, c1, f1, h1, k1, r1, o1, hk1⟩ := take1_sound h (hrt 0 x c rfl rfl) hk
    obtain ⟨own2, M2, l2, fps, h2, k2, e2, e3, r2, o2, hk2⟩ := takeL_sound l M1 own1 xs _ r h1 (by simpa using hl) (fun j x c hx hc => (hrt (j + 1) x c hx hc).later k1.later) hk1
    refine ⟨own2, M2, c1 :: l2, f1 :: fps, h2, k1.trans k2, by simp [e2], by simp [e3], fun j y f d hy hf hd => ?_, fun j d d' hd hd' => ?_, hk2⟩
    · cases j with
      | zero => simp at hy hf hd; subst hy hf hd; exact r1
      | succ j => exact r2 j y f d hy hf hd
    · cases j with
      | zero => simp at hd hd'; subst hd hd'; exact o1
      | succ j => exact o2 j d d' hd hd'

/-- an object, taken with what it holds -/
theorem takeObj_sound (h : FR F S own T { s with M := M } a w) {id : Nat} {l : List V} (hpl : pl M id = .pt l) {Kc : List V → List V → Option R} {r : R} (hk : takeL (M.set id .dead) l Kc = some r) :
    ∃ own' M' l' fp b, T id = .pointer (some ⟨b, 0, none⟩) ∧ FR F S own' T { s with M := M' } a w ∧ Took F S own own' w T M M' fp ∧ OwnV S w (T id) fp (.pt l') ∧ Kc M' l' = some r := by
  have hlt := pl_lt hpl (by simp)
  obtain ⟨b, cs, e, h1, h2, h3, h4, h5⟩ := FR.place (s := { s with M := M }) h hpl (by simp)
  have kd := h.kill_took id [b] (by simp) (fun b' hb => by simp at hb; rw [hb]; exact h5)
  obtain ⟨own2, M2, l2, fps, f2, k2, e2, e3, r2, o2, hk2⟩ := takeL_sound l (M.set id .dead) (without own id) cs.toList _ r (h.kill id hlt) (by simpa using h3)
    (fun j x c hx hc => ((h4 j x c (by rw [← Array.getElem?_toList]; exact hx) hc).2).later (FR.kill_later id)) hk
  refine ⟨own2, M2, l2, b :: fps.flatten, b, h1, f2, kd.trans k2, ⟨b, cs.toList, e, fps, h1, by simpa using h2, by rw [e2]; simpa using h3, by rw [e3, e2], r2, rfl, fun j c hc => ?_⟩, hk2⟩
  have hj : j < l.length := by rw [← e2]; exact (List.getElem?_eq_some_iff.1 hc).1
  have hjc : j < cs.size := by omega
  exact o2 j l[j] c (List.getElem?_eq_getElem hj) hc (h4 j cs[j] l[j] (Array.getElem?_eq_getElem hjc) (List.getElem?_eq_getElem hj)).1

theorem take_sound (h : FR F S own T { s with M := M } a w) {v : Value} {c : V} (hrt : RTV S w T M v c) {Kc : List V → V → Option R} {r : R} (hk : take M c Kc = some r) :
    ∃ own' M' c' fp, FR F S own' T { s with M := M' } a w ∧ Took F S own own' w T M M' fp ∧ OwnV S w v fp c' ∧ Kc M' c' = some r := by
  unfold take at hk
  split at hk
  · rename_i id off
    obtain ⟨hlt, b, hT, rfl⟩ := rtv_pr hrt
    split at hk
    · rename_i l hpl
      split at hk
      · rename_i h0
        subst h0
        obtain ⟨own2, M2, l2, fp, b2, hT2, f2, k2, r2, hk2⟩ := takeObj_sound h hpl hk
        exact ⟨own2, M2, _, fp, f2, k2, by rw [← hT]; exact r2, hk2⟩
      · exact absurd hk (by simp)
    · rename_i l off' hpl
      obtain ⟨h0, b', h1, h2⟩ := FR.place (s := { s with M := M }) h hpl (by simp)
      rw [hT] at h1 h2; cases h1
      exact ⟨own, M, .pv l off, [], h, .nil, ⟨repL_pv_off h2, rfl⟩, hk⟩
    · exact absurd hk (by simp)
  · rename_i l
    obtain ⟨xs, rfl, hlen, hxs⟩ := (show RTA S w T M v (.agg l) from hrt)
    obtain ⟨own2, M2, l2, fps, f2, k2, e2, e3, r2, _, hk2⟩ := takeL_sound l M own xs _ r h hlen (fun j x c hx hc => (hxs j x c hx hc).2) hk
    exact ⟨own2, M2, .agg l2, fps.flatten, f2, k2, ⟨xs, fps, rfl, by omega, by omega, r2, rfl⟩, hk2⟩
  · rename_i n1 n2
    have hrt' : RT S w T M v c := by
      cases c with
      | agg l => exact absurd rfl (n2 l)
      | tup l => simp [take1] at hk
      | _ => exact hrt
    have hnt : ∀ l, c ≠ .tup l := fun l e => by subst e; simp [take1] at hk
    obtain ⟨own', M', c', fp, f, k, rr, _, hk'⟩ := take1_sound h hrt' hk
    refine ⟨own', M', c', fp, f, k, ?_, hk'⟩
    cases c' with
    | agg l => exact absurd rfl (rr.1.not_agg.1 l)
    | pt l => exact absurd rr.1 (fun h => by cases h)
    | _ => exact rr

theorem takeAll_sound : ∀ (l : List V) (M : List V) (own : Nat → Option Nat) (xs : List Value) (Kc : List V → List V → Option R) (r : R), FR F S own T { s with M := M } a w → xs.length = l.length →
    (∀ (j : Nat) x c, xs[j]? = some x → l[j]? = some c → RTV S w T M x c) → takeAll M l Kc = some r →
    ∃ (own' : Nat → Option Nat) (M' l' : List V) (fps : List (List Nat)), FR F S own' T { s with M := M' } a w ∧ Took F S own own' w T M M' fps.flatten ∧ l'.length = l.length ∧ fps.length = l.length ∧ (∀ (j : Nat) x f c, xs[j]? = some x → fps[j]? = some f → l'[j]? = some c → OwnV S w x f c) ∧ Kc M' l' = some r
  | [], M, own, xs, Kc, r, h, _, _, hk => ⟨own, M, [], [], h, .nil, rfl, rfl, fun j x f c _ hf => by simp at hf, hk⟩
  | c :: l, M, own, [], Kc, r, h, hl, _, hk => by simp at hl
  | c :: l, M, own, x :: xs, Kc, r, h, hl, hrt, hk => by
    simp only [takeAll] at hk
    obtain ⟨own1, M1, c1, f1, h1, k1, r1, hk1⟩ := take_sound h (hrt 0 x c rfl rfl) hk
    obtain ⟨own2, M2, l2, fps, h2, k2, e2, e3, r2, hk2⟩ := takeAll_sound l M1 own1 xs _ r h1 (by simpa using hl) (fun j x c hx hc => (hrt (j + 1) x c hx hc).later k1.later) hk1
    refine ⟨own2, M2, c1 :: l2, f1 :: fps, h2, k1.trans k2, by simp [e2], by simp [e3], fun j y f d hy hf hd => ?_, hk2⟩
    cases j with
    | zero => simp at hy hf hd; subst hy hf hd; exact r1
    | succ j => exact r2 j y f d hy hf hd

/-! ### laying -/
structure Laid (F : Fx) (S : Nat → Prop) (own own' : Nat → Option Nat) (w : World) (T T' : Nat → Value) (M M' : List V) (fp : List Nat) : Prop where
  later : Later S S w w T T' M M'
  hown : ∀ b, b ∉ fp → own' b = own b
  pl : ∀ id, id < M.length → pl M' id = pl M id
theorem Laid.nil : Laid F S own own w T T M M [] := ⟨.refl, fun _ _ => rfl, fun _ _ => rfl⟩
theorem Laid.trans {o1 o2 o3 : Nat → Option Nat} {T1 T2 T3 : Nat → Value} {M1 M2 M3 : List V} {f1 f2 : List Nat} (h : Laid F S o1 o2 w T1 T2 M1 M2 f1) (k : Laid F S o2 o3 w T2 T3 M2 M3 f2) : Laid F S o1 o3 w T1 T3 M1 M3 (f1 ++ f2) :=
  ⟨h.later.trans k.later, fun b hb => (k.hown b (fun h' => hb (List.mem_append.2 (.inr h')))).trans (h.hown b (fun h' => hb (List.mem_append.2 (.inl h')))),
    fun id hid => (k.pl id (Nat.lt_of_lt_of_le hid h.later.hM)).trans (h.pl id hid)⟩
theorem Free.append_left {f1 f2 : List Nat} (h : Free F S own w (f1 ++ f2)) : Free F S own w f1 := ⟨(List.nodup_append.1 h.1).1, fun b hb => h.2 b (List.mem_append.2 (.inl hb))⟩
theorem Free.append_right {f1 f2 : List Nat} (h : Free F S own w (f1 ++ f2)) (ho : ∀ b, b ∉ f1 → own' b = own b) : Free F S own' w f2 :=
  ⟨(List.nodup_append.1 h.1).2.1, fun b hb => by
    obtain ⟨h1, h2, h3, h4⟩ := h.2 b (List.mem_append.2 (.inr hb))
    refine ⟨h1, h2, h3, ?_⟩
    rw [ho b (fun h' => (List.nodup_append.1 h.1).2.2 b h' b hb rfl)]
    exact h4⟩

theorem lay1_sound (h : FR F S own T { s with M := M } a w) {v : Value} {c : V} {fp : List Nat} (ho : OwnL S w v fp c) (hf : Free F S own w fp) :
    ∃ own' T', FR F S own' T' { s with M := (lay1 M c).1 } a w ∧ Laid F S own own' w T T' M (lay1 M c).1 fp ∧ (lay1 M c).2 ≠ .dead ∧ RT S w T' (lay1 M c).1 v (lay1 M c).2 ∧ (okP c = true → okCell (lay1 M c).2 = true) := by
  have plain : RepL S w v c ∧ fp = [] → (∀ ar, c ≠ .sl true ar) → ∃ own' T', FR F S own' T' { s with M := M } a w ∧ Laid F S own own' w T T' M M fp ∧ c ≠ .dead ∧ RT S w T' M v c ∧ (okP c = true → okCell c = true) := by
    rintro ⟨hr, rfl⟩ hn
    exact ⟨own, T, h, .nil, hr.not_agg.2.2, .of_rep hr, fun hc => by
      cases c with
      | sl o ar =>
        cases o with
        | true => exact absurd rfl (hn ar)
        | false => rfl
      | _ => exact hc⟩
  cases c with
  | sl o ar =>
    cases o with
    | false => exact plain ho (by simp)
    | true =>
      obtain ⟨hO, rfl⟩ := ho
      obtain ⟨own', T', f, hT, _, L, hown'⟩ := FR.newPlace (s := { s with M := M }) (w' := w) h v (.sl true ar) v.ownBlock (fun _ _ _ => rfl) (Nat.le_refl _) ⟨rfl, rfl, rfl⟩
        (fun b hb => by
          obtain ⟨h1, h2, h3, h4⟩ := hf.2 b (by rw [hb]; simp)
          exact ⟨h1, fun _ => ⟨h2, h3, h4⟩⟩)
        (fun own' T' ho hT _ _ => ⟨by rw [hT]; exact hO, fun b hb => ho b (by rw [hT] at hb; exact hb)⟩)
      refine ⟨own', T', f, ⟨L, fun b hb => ?_, fun id hid => ?_⟩, by simp [lay1], ⟨by simp [lay1], hT.symm, ?_⟩, fun _ => rfl⟩
      · rw [hown' b, if_neg]
        intro e
        exact hb (by rw [e]; simp)
      · simp only [lay1]
        rw [pl_push, if_neg (by omega)]
      · obtain ⟨_, ⟨e, xs, hown, _⟩, _⟩ := hO
        rcases hown.2 with ⟨rfl, _⟩ | ⟨g, cap, cur, rfl, _⟩ <;> rfl
  | _ => exact plain ho (by simp)

theorem layL_sound : ∀ (l : List V) (M : List V) (own : Nat → Option Nat) (T : Nat → Value) (xs : List Value) (fps : List (List Nat)), FR F S own T { s with M := M } a w → xs.length = l.length → fps.length = l.length →
    (∀ (j : Nat) x f c, xs[j]? = some x → fps[j]? = some f → l[j]? = some c → OwnL S w x f c) → Free F S own w fps.flatten →
    ∃ own' T', FR F S own' T' { s with M := (layL M l).1 } a w ∧ Laid F S own own' w T T' M (layL M l).1 fps.flatten ∧ (layL M l).2.length = l.length ∧
      (∀ (j : Nat) x c, xs[j]? = some x → (layL M l).2[j]? = some c → c ≠ .dead ∧ RT S w T' (layL M l).1 x c) ∧ (∀ (j : Nat) c c', l[j]? = some c → (layL M l).2[j]? = some c' → okP c = true → okCell c' = true)
  | [], M, own, T, xs, fps, h, _, hf, _, _ => by
    have : fps = [] := List.eq_nil_of_length_eq_zero (by simpa using hf)
    subst this
    exact ⟨own, T, h, .nil, rfl, fun j x c _ hc => by simp [layL] at hc, fun j c c' hc => by simp at hc⟩
  | c :: l, M, own, T, [], fps, h, hl, _, _, _ => by simp at hl
  | c :: l, M, own, T, x :: xs, [], h, _, hl, _, _ => by simp at hl
  | c :: l, M, own, T, x :: xs, f :: fps, h, hl, hl2, ho, hfree => by
    have hfree : Free F S own w (f ++ fps.flatten) := hfree
    obtain ⟨own1, T1, h1, k1, d1, r1, o1⟩ := lay1_sound h (ho 0 x f c rfl rfl rfl) hfree.append_left
    obtain ⟨own2, T2, h2, k2, e2, r2, o2⟩ := layL_sound l (lay1 M c).1 own1 T1 xs fps h1 (by simpa using hl) (by simpa using hl2) (fun j x f c hx hf hc => ho (j + 1) x f c hx hf hc) (hfree.append_right k1.hown)
    refine ⟨own2, T2, h2, k1.trans k2, by simp [layL, e2], fun j y d hy hd => ?_, fun j d d' hd hd' => ?_⟩
    · cases j with
      | zero =>
        simp only [layL, List.getElem?_cons_zero, Option.some.injEq] at hy hd
        subst hy hd
        exact ⟨d1, r1.later k2.later⟩
      | succ j => exact r2 j y d hy (by simpa [layL] using hd)
    · cases j with
      | zero =>
        simp only [layL, List.getElem?_cons_zero, Option.some.injEq] at hd hd'
        subst hd hd'
        exact o1
      | succ j => exact o2 j d d' hd (by simpa [layL] using hd')

theorem okCell_of_rt {v : Value} {c : V} (h : RT S w T M v c) (hd : c ≠ .dead) (hn : c ≠ .nils) (he : ∀ id i off, c ≠ .er id i off) : okCell c = true := by
  cases c with
  | er id i off => exact absurd rfl (he id i off)
  | dead => exact absurd rfl hd
  | nils => exact absurd rfl hn
  | sl o ar =>
    cases o with
    | true => exact absurd (show RepL S w v (.sl true ar) from h) (fun h => by cases h)
    | false => rfl
  | agg l => exact absurd (show RepL S w v (.agg l) from h) (fun h => by cases h)
  | tup l => exact absurd (show RepL S w v (.tup l) from h) (fun h => by cases h)
  | pt l => exact absurd (show RepL S w v (.pt l) from h) (fun h => by cases h)
  | _ => rfl
end
end Go.Proofs.Ytfkkigbbejhfbaa.Idl
/- Calls: what a callee owes; what is lent and handed over. -/
namespace Go.Proofs.Ytfkkigbbejhfbaa.Idl
open Go
variable {P : Program}

/-- the values of the object arguments -/
def ptVals : List Value → List V → List Value
  | v :: vs, .pt _ :: l => v :: ptVals vs l
  | _ :: vs, _ :: l => ptVals vs l
  | _, _ => []

structure CallPost (S S' : Nat → Prop) (w w' : World) (fp : List Nat) (v : Value) (res : V) (rfp : List Nat) (ovs : List Value) (outs : List V) (ofps : List (List Nat)) : Prop where
  hS : ∀ b, S b → S' b
  slt : ∀ b, S' b → b < w'.heap.size
  new : ∀ b, S' b → S b ∨ w.heap.size ≤ b ∨ b ∈ fp
  keep : ∀ b, b < w.heap.size → b ∉ fp → w'.heap[b]? = w.heap[b]?
  size : w.heap.size ≤ w'.heap.size
  out : w'.os = w.os ∧ w'.tape = w.tape ∧ w'.output = w.output
  res : OwnT S' w' v rfp res
  outs : OwnVs S' w' ovs ofps outs
  nodup : (rfp ++ ofps.flatten).Nodup
  free : ∀ b, b ∈ rfp ++ ofps.flatten → b < w'.heap.size ∧ ¬ S' b ∧ (w.heap.size ≤ b ∨ b ∈ fp)

def CallOK (P : Program) (f : Nat) (args : List V) (res : V) (outs : List V) : Prop :=
  ∀ (S : Nat → Prop) (w : World) (vs : List Value) (fps : List (List Nat)), (∀ b, S b → b < w.heap.size) → OwnVs S w vs fps args → fps.flatten.Nodup → (∀ b, b ∈ fps.flatten → b < w.heap.size ∧ ¬ S b) →
    Calls P f vs.toArray w fun e w' => ∃ v S' rfp ofps, e = .returned v ∧ CallPost S S' w w' fps.flatten v res rfp (ptVals vs args) outs ofps
def CallsOK (P : Program) (cf : CallF) : Prop := ∀ f args res outs, cf f args = some (res, outs) → CallOK P f args res outs

section
variable {F : Fx} {S S' : Nat → Prop} {own own' : Nat → Option Nat} {T T' : Nat → Value} {s : St} {a : Act} {w w' : World} {M M' : List V} {R : Type}

/-- lent: a shared value, or what lies in a place -/
def LendL (S : Nat → Prop) (w : World) (T : Nat → Value) (M : List V) (x : Value) (c c' : V) : Prop :=
  RepL S w x c' ∨ ∃ id ar, c = .rs id ∧ x = T id ∧ pl M id = .sl true ar ∧ c' = .sl false ar

theorem lend1_sound {E : Env} (_hE : EnvOK P E) (h : FR F S own T { s with M := M } a w) {t : Nat} {v : Value} {c : V} (hrt : RT S w T M v c) {Kc : V → Option R} {r : R} (hk : lend1 E M t c Kc = some r) :
    ∃ c', LendL S w T M v c c' ∧ Kc c' = some r := by
  unfold lend1 at hk
  split at hk
  · rename_i id
    obtain ⟨hlt, hv, _⟩ := hrt
    split at hk
    · rename_i o ar hpl
      cases o with
      | true => exact ⟨_, .inr ⟨id, ar, rfl, hv, hpl, rfl⟩, hk⟩
      | false => exact ⟨_, .inl (by rw [hv]; exact FR.place (s := { s with M := M }) h hpl (by simp)), hk⟩
    · exact absurd hk (by simp)
  · rename_i id off
    obtain ⟨hlt, b, hT, hv⟩ := hrt
    split at hk
    · rename_i l off' hpl
      obtain ⟨h0, b', h1, h2⟩ := FR.place (s := { s with M := M }) h hpl (by simp)
      rw [hT] at h1 h2; cases h1
      exact ⟨_, .inl (by rw [hv]; exact repL_pv_off h2), hk⟩
    · exact absurd hk (by simp)
  · have hv : v = .slice none 0 0 := by cases (show RepL S w v .nils from hrt); rfl
    split at hk
    · exact ⟨_, .inl (by rw [hv]; exact .nils), hk⟩
    · split at hk
      · rename_i te hte
        exact ⟨_, .inl (by rw [hv]; exact .slE none 0 _ te.ek.nil_len), hk⟩
      · exact absurd hk (by simp)
  · split at hk
    · exact ⟨_, .inl hrt, hk⟩
    · exact absurd hk (by simp)
  all_goals first | exact absurd hk (by simp) | skip
  rename_i n1 n2 n3 n4 n5 n6 n7 n8 n9 n10
  exact ⟨c, .inl (hrt.plain_of (fun e => n10 e) (fun id e => n1 id e) (fun id off e => n2 id off e) (fun id i off e => n5 id i off e)), hk⟩

/-- lent, structs among it -/
def LendA (S : Nat → Prop) (w : World) (T : Nat → Value) (M : List V) (x : Value) (c : V) : V → Prop
  | .agg l' => ∃ (l : List V) (xs : List Value), c = .agg l ∧ x = .agg xs.toArray ∧ xs.length = l'.length ∧ l.length = l'.length ∧ ∀ (j : Nat) y d d', xs[j]? = some y → l[j]? = some d → l'[j]? = some d' → LendL S w T M y d d'
  | c' => LendL S w T M x c c'

theorem lendL_sound {E : Env} (hE : EnvOK P E) (h : FR F S own T { s with M := M } a w) : ∀ (l : List V) (xs : List Value) (Kc : List V → Option R) (r : R), xs.length = l.length → (∀ (j : Nat) x c, xs[j]? = some x → l[j]? = some c → RT S w T M x c) → lendL M E l Kc = some r →
    ∃ l', l'.length = l.length ∧ (∀ (j : Nat) x d d', xs[j]? = some x → l[j]? = some d → l'[j]? = some d' → LendL S w T M x d d') ∧ Kc l' = some r
  | [], xs, Kc, r, _, _, hk => ⟨[], rfl, fun j x d d' _ hd => by simp at hd, hk⟩
  | c :: l, [], Kc, r, hl, _, hk => by simp at hl
  | c :: l, x :: xs, Kc, r, hl, hrt, hk => by
    simp only [lendL] at hk
    obtain ⟨c', h1, hk⟩ := lend1_sound hE h (hrt 0 x c rfl rfl) hk
    obtain ⟨l', h2, h3, hk⟩ := lendL_sound hE h l xs _ r (by simpa using hl) (fun j x c hx hc => hrt (j + 1) x c hx hc) hk
    refine ⟨c' :: l', by simp [h2], fun j y d d' hy hd hd' => ?_, hk⟩
    cases j with
    | zero => simp at hy hd hd'; subst hy hd hd'; exact h1
    | succ j => exact h3 j y d d' hy hd hd'

theorem lend_sound {E : Env} (hE : EnvOK P E) (h : FR F S own T { s with M := M } a w) {t : Nat} {v : Value} {c : V} (hrt : RTV S w T M v c) {Kc : V → Option R} {r : R} (hk : lend E M t c Kc = some r) :
    ∃ c', LendA S w T M v c c' ∧ (∀ l, c' ≠ .pt l) ∧ Kc c' = some r := by
  unfold lend at hk
  split at hk
  · rename_i l
    obtain ⟨xs, rfl, hlen, hxs⟩ := (show RTA S w T M v (.agg l) from hrt)
    obtain ⟨l', h1, h2, hk⟩ := lendL_sound hE h l xs _ r hlen (fun j x c hx hc => (hxs j x c hx hc).2) hk
    exact ⟨.agg l', ⟨l, xs, rfl, rfl, by omega, by omega, h2⟩, by simp, hk⟩
  · rename_i n
    have hrt' : RT S w T M v c := by
      cases c with
      | agg l => exact absurd rfl (n l)
      | tup l => simp [lend1] at hk
      | _ => exact hrt
    obtain ⟨c', h1, hk⟩ := lend1_sound hE h hrt' hk
    have hna : ∀ l, c' ≠ .agg l := by
      rintro l rfl
      rcases h1 with h1 | ⟨_, _, _, _, _, h1⟩
      · cases h1
      · cases h1
    have hnp : ∀ l, c' ≠ .pt l := by
      rintro l rfl
      rcases h1 with h1 | ⟨_, _, _, _, _, h1⟩
      · cases h1
      · cases h1
    refine ⟨c', ?_, hnp, hk⟩
    cases c' with
    | agg l => exact absurd rfl (hna l)
    | _ => exact h1

def lentIn (L : List Nat) (own : Nat → Option Nat) (b : Nat) : Prop := ∃ id, id ∈ L ∧ own b = some id
def lend1Ids : V → List Nat
  | .rs id => [id]
  | .agg l => l.filterMap fun v => match v with | .rs id => some id | _ => none
  | _ => []
theorem lentIds_eq : ∀ l : List V, lentIds l = l.flatMap lend1Ids
  | [] => rfl
  | v :: l => by
    cases v <;> simp only [lentIds, lend1Ids, lentIds_eq l, List.flatMap_cons, List.nil_append, List.singleton_append] <;> rfl

/-- what was lent, in the end: shared, if the places lent are -/
theorem LendL.final {S1 : Nat → Prop} {x : Value} {c c' : V} (hS : ∀ b, S b → S1 b) (hl : LendL S w T M x c c') (hR : ∀ id ar, c = .rs id → pl M id = .sl true ar → RepL S1 w (T id) (.sl false ar)) :
    RepL S1 w x c' := by
  rcases hl with hr | ⟨id, ar, rfl, rfl, hpl, rfl⟩
  · exact hr.mono hS (fun _ _ => rfl)
  · exact hR id ar rfl hpl

theorem LendA.final {S1 : Nat → Prop} {x : Value} {c c' : V} (hS : ∀ b, S b → S1 b) (hl : LendA S w T M x c c') (hnp : ∀ l, c' ≠ .pt l) (hR : ∀ id ar, id ∈ lend1Ids c → pl M id = .sl true ar → RepL S1 w (T id) (.sl false ar)) :
    OwnV S1 w x [] c' := by
  have leaf : LendL S w T M x c c' → (∀ l, c' ≠ .agg l) → OwnV S1 w x [] c' := by
    intro hl hna
    rw [ownv_eq hnp hna]
    have := hl.final hS (fun id ar e => hR id ar (by subst e; simp [lend1Ids]))
    cases c' with
    | sl o ar =>
      cases o with
      | true => cases this
      | false => exact ⟨this, rfl⟩
    | _ => exact ⟨this, rfl⟩
  cases c' with
  | agg l' =>
    obtain ⟨l, xs, rfl, rfl, h1, h2, h3⟩ := hl
    refine ⟨xs, List.replicate l'.length [], rfl, h1, by simp, fun j y f d' hy hf hd' => ?_, by simp⟩
    have hfe : f = [] := by
      rw [List.getElem?_replicate] at hf
      split at hf
      · exact (Option.some.inj hf).symm
      · cases hf
    subst hfe
    have hjl : j < l.length := by rw [h2]; exact (List.getElem?_eq_some_iff.1 hd').1
    have hl2 := h3 j y l[j] d' hy (List.getElem?_eq_getElem hjl) hd'
    have hmem : ∀ id, l[j] = .rs id → id ∈ lend1Ids (.agg l) := by
      intro id e
      simp only [lend1Ids, List.mem_filterMap]
      exact ⟨l[j], List.getElem_mem hjl, by rw [e]⟩
    have := hl2.final hS (fun id ar e => hR id ar (hmem id e))
    cases d' with
    | sl o ar =>
      cases o with
      | true => cases this
      | false => exact ⟨this, rfl⟩
    | _ => exact ⟨this, rfl⟩
  | pt l => exact absurd rfl (hnp l)
  | _ => exact leaf hl (by simp)

/-- arguments of a simple call: all lent -/
theorem lendAll_sound {E : Env} (hE : EnvOK P E) (h : FR F S own T { s with M := M } a w) : ∀ (l : List (V × Nat)) (xs : List Value) (Kc : List V → Option R) (r : R), xs.length = l.length →
    (∀ (j : Nat) x p, xs[j]? = some x → l[j]? = some p → RTV S w T M x p.1) → lendAll E M l Kc = some r →
    ∃ l', l'.length = l.length ∧ (∀ (j : Nat) x p c, xs[j]? = some x → l[j]? = some p → l'[j]? = some c → (∀ q, c ≠ .pt q) ∧ LendA S w T M x p.1 c) ∧ Kc l' = some r
  | [], xs, Kc, r, _, _, hk => ⟨[], rfl, fun j x p c _ hp => by simp at hp, hk⟩
  | (c, t) :: l, [], Kc, r, hl, _, hk => by simp at hl
  | (c, t) :: l, x :: xs, Kc, r, hl, hrt, hk => by
    simp only [lendAll] at hk
    obtain ⟨c1, hla, hnp, hk⟩ := lend_sound hE h (hrt 0 x (c, t) rfl rfl) hk
    obtain ⟨l', h2, h3, hk⟩ := lendAll_sound hE h l xs _ r (by simpa using hl) (fun j x p hx hp => hrt (j + 1) x p hx hp) hk
    refine ⟨c1 :: l', by simp [h2], fun j y p d hy hp hd => ?_, hk⟩
    cases j with
    | zero => simp at hy hp hd; subst hy hp hd; exact ⟨hnp, hla⟩
    | succ j => exact h3 j y p d hy hp hd

/-- arguments: objects handed over, the rest lent -/
theorem handAll_sound {E : Env} (hE : EnvOK P E) : ∀ (l : List (V × Nat)) (M : List V) (own : Nat → Option Nat) (xs : List Value) (Kc : List V → List V → List Nat → Option R) (r : R), FR F S own T { s with M := M } a w → xs.length = l.length →
    (∀ (j : Nat) x p, xs[j]? = some x → l[j]? = some p → RTV S w T M x p.1) → handAll E M l Kc = some r →
    ∃ (own' : Nat → Option Nat) (M' l' : List V) (ids : List Nat) (fps : List (List Nat)), FR F S own' T { s with M := M' } a w ∧ Took F S own own' w T M M' fps.flatten ∧ l'.length = l.length ∧ fps.length = l.length ∧
      (∀ (j : Nat) x f p c, xs[j]? = some x → fps[j]? = some f → l[j]? = some p → l'[j]? = some c →
        (∃ q, c = .pt q ∧ OwnV S w x f c) ∨ (f = [] ∧ (∀ q, c ≠ .pt q) ∧ ∃ M1, LendA S w T M1 x p.1 c ∧ ∀ id, pl M' id ≠ .dead → pl M' id = pl M1 id)) ∧
      ptVals xs l' = ids.map T ∧ (∀ id, id ∈ ids → id < M.length) ∧ Kc M' l' ids = some r
  | [], M, own, xs, Kc, r, h, hl, _, hk => by
    have : xs = [] := List.eq_nil_of_length_eq_zero (by simpa using hl)
    subst this
    exact ⟨own, M, [], [], [], h, .nil, rfl, rfl, fun j x f p c hx => by simp at hx, rfl, by simp, hk⟩
  | (c, t) :: l, M, own, [], Kc, r, h, hl, _, hk => by simp at hl
  | (c, t) :: l, M, own, x :: xs, Kc, r, h, hl, hrt, hk => by
    simp only [handAll] at hk
    have hrt0 := hrt 0 x (c, t) rfl rfl
    simp only at hrt0
    have tail : ∀ {own1 : Nat → Option Nat} {M1 : List V} {c1 : V} {f1 : List Nat} {ids1 : List Nat}, FR F S own1 T { s with M := M1 } a w → Took F S own own1 w T M M1 f1 → 
        ((∃ q, c1 = .pt q ∧ OwnV S w x f1 c1 ∧ ∃ id, ids1 = [id] ∧ x = T id ∧ id < M.length) ∨ (f1 = [] ∧ (∀ q, c1 ≠ .pt q) ∧ ids1 = [] ∧ ∃ M2, LendA S w T M2 x c c1 ∧ ∀ id, pl M1 id ≠ .dead → pl M1 id = pl M2 id)) →
        (handAll E M1 l fun M vs' ids' => Kc M (c1 :: vs') (ids1 ++ ids')) = some r →
        ∃ (own' : Nat → Option Nat) (M' l' : List V) (ids : List Nat) (fps : List (List Nat)), FR F S own' T { s with M := M' } a w ∧ Took F S own own' w T M M' fps.flatten ∧ l'.length = ((c, t) :: l).length ∧ fps.length = ((c, t) :: l).length ∧
          (∀ (j : Nat) y f p d, (x :: xs)[j]? = some y → fps[j]? = some f → ((c, t) :: l)[j]? = some p → l'[j]? = some d →
            (∃ q, d = .pt q ∧ OwnV S w y f d) ∨ (f = [] ∧ (∀ q, d ≠ .pt q) ∧ ∃ M1, LendA S w T M1 y p.1 d ∧ ∀ id, pl M' id ≠ .dead → pl M' id = pl M1 id)) ∧
          ptVals (x :: xs) l' = ids.map T ∧ (∀ id, id ∈ ids → id < M.length) ∧ Kc M' l' ids = some r := by
      intro own1 M1 c1 f1 ids1 h1 k1 hc1 hk
      obtain ⟨own2, M2, l2, ids2, fps, h2, k2, e2, e3, r2, hp, hid, hk2⟩ := handAll_sound hE l M1 own1 xs _ r h1 (by simpa using hl) (fun j x p hx hp => (hrt (j + 1) x p hx hp).later k1.later) hk
      refine ⟨own2, M2, c1 :: l2, ids1 ++ ids2, f1 :: fps, h2, k1.trans k2, by simp [e2], by simp [e3], fun j y f p d hy hf hp hd => ?_, ?_, ?_, hk2⟩
      · cases j with
        | zero =>
          simp at hy hf hp hd; subst hy hf hp hd
          rcases hc1 with ⟨q, e, ho, _⟩ | ⟨e, hn, _, M3, hla, hkp⟩
          · exact .inl ⟨q, e, ho⟩
          · refine .inr ⟨e, hn, M3, hla, fun id hid => ?_⟩
            have e4 := k2.keep id hid
            rw [e4] at hid ⊢
            exact hkp id hid
        | succ j => exact r2 j y f p d hy hf hp hd
      · rcases hc1 with ⟨q, rfl, _, id, rfl, rfl, _⟩ | ⟨_, hn, rfl, _⟩
        · simp [ptVals, hp]
        · cases c1 <;> simp [ptVals, hp] <;> exact absurd rfl (hn _)
      · intro id hmem
        rcases List.mem_append.1 hmem with hm | hm
        · rcases hc1 with ⟨q, _, _, id', rfl, _, hlt⟩ | ⟨_, _, rfl, _⟩
          · simp at hm; rw [hm]; exact hlt
          · simp at hm
        · have := hid id hm
          rw [k1.len] at this
          exact this
    unfold handArg at hk
    split at hk
    · rename_i id off
      obtain ⟨hlt, b, hT, hx⟩ := rtv_pr hrt0
      split at hk
      · rename_i q hpl
        split at hk
        · rename_i h0
          subst h0
          obtain ⟨own1, M1, l1, fp, b2, hT2, f1, k1, r1, hk1⟩ := takeObj_sound h hpl hk
          have hxT : x = T id := by rw [hx, hT]
          exact tail f1 k1 (.inl ⟨l1, rfl, by rw [hxT]; exact r1, id, rfl, hxT, hlt⟩) hk1
        · exact absurd hk (by simp)
      · rename_i q off' hpl
        obtain ⟨h0, b', h1, h2⟩ := FR.place (s := { s with M := M }) h hpl (by simp)
        rw [hT] at h1 h2; cases h1
        exact tail (c1 := .pv q off) h .nil (.inr ⟨rfl, by simp, rfl, M, show LendL S w T M x (.pr id off) (.pv q off) from .inl (by rw [hx]; exact repL_pv_off h2), fun _ _ => rfl⟩) hk
      · exact absurd hk (by simp)
    · obtain ⟨c1, hla, hnp, hk1⟩ := lend_sound hE h hrt0 hk
      exact tail h .nil (.inr ⟨rfl, hnp, rfl, M, hla, fun _ _ => rfl⟩) hk1
end
end Go.Proofs.Ytfkkigbbejhfbaa.Idl
